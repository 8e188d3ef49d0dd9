/- What the prover chose, as rules. -/
import Derived.Test.YtnfbfcheipjonaaGreatDoorGmTys
namespace Go.Gm
theorem kdE (t : TypeId) : kd E0.P t = (ti E0.P t).map (·.kind) := rfl
theorem peqE (t : TypeId) : E0.A.peq t = [34].contains t := rfl
theorem mutbE (f : FuncId) (d : Nat) : E0.A.mutb f d = false := rfl
theorem acc0E (f : FuncId) (d : Nat) : E0.A.acc0 f d = none := rfl
theorem memE (s d : TypeId) : E0.A.mem s d = [(34, 97), (97, 34), (35, 9)].contains (s, d) := rfl
theorem litE (f : FuncId) (d : Nat) : E0.A.lit f d = [(35, 15), (35, 18), (257, 31), (257, 56)].contains (f, d) := rfl
theorem keepE (f : FuncId) : E0.A.keep f = false := rfl
theorem primE (f : FuncId) : E0.prim f = none := rfl
theorem GE (g : Nat) : E0.G g = G0 g := rfl
theorem E0P : E0.P = Go.Proofs.Tryz.prog := rfl
theorem fn_of {f : FuncId} {fn : Func} (h : Go.Proofs.Tryz.prog.funcs[f]? = some fn) : E0.P.funcs[f]? = some fn := h
def extNo : Option ExtK → Nat
  | none => 0
  | some .same => 1
  | some .indexByte => 2
theorem extNo_inj : ∀ a b : Option ExtK, extNo a = extNo b → a = b
  | none, none, _ | some .same, some .same, _ | some .indexByte, some .indexByte, _ => rfl
  | none, some .same, h | none, some .indexByte, h | some .same, none, h | some .same, some .indexByte, h | some .indexByte, none, h | some .indexByte, some .same, h => by simp [extNo] at h
def extT (h : FuncId) : Option ExtK := if h = 42 then some .indexByte else if h = 43 then some .same else none
set_option maxRecDepth 100000 in
theorem ext_all : (List.range 480).all (fun h => extNo (extP E0.P h) == extNo (extT h)) = true := by kernel_rfl
set_option maxRecDepth 100000 in
theorem ext_size : E0.P.funcs.size = 480 := by kernel_rfl
theorem extE (h : FuncId) : extP E0.P h = extT h := by
  rcases Nat.lt_or_ge h 480 with hl | hl
  · have := ext_all
    rw [List.all_eq_true] at this
    exact extNo_inj _ _ (by simpa using this h (by simpa using hl))
  · have h1 : E0.P.funcs[h]? = none := Array.getElem?_eq_none (by rw [ext_size]; exact hl)
    unfold extP extT
    rw [h1]
    simp only
    rw [if_neg (fun e => by subst e; exact absurd hl (by decide)), if_neg (fun e => by subst e; exact absurd hl (by decide))]
theorem killed0 {k : Nat} {m : Mem} {old : PV} (h : refs old = []) : killed k m old = m := by
  unfold killed
  rw [h]
  refine List.ext_getElem? fun i => ?_
  rcases Nat.lt_or_ge i m.length with hi | hi
  · simp [hi]
  · simp [hi]
theorem refsE : (∀ b, refs (.bool b) = []) ∧ (∀ k n, refs (.int k n) = []) ∧ (∀ s, refs (.str s) = []) ∧ refs .nilp = [] ∧ (∀ b o, refs (.ptr b o) = [b]) ∧ (∀ cs o, refs (.iptr cs o) = []) ∧ refs .nils = [] ∧ (∀ f s es, refs (.sl f s es) = []) ∧
    (∀ b n, refs (.acc b n) = [b]) ∧ (∀ b n, refs (.accp b n) = [b]) ∧ (∀ b s o n, refs (.ref b s o n) = [b]) ∧ refs .nilm = [] ∧ (∀ b, refs (.map b) = [b]) ∧ (∀ f a c, refs (.fn f a c) = refsL a ++ refsL c) ∧ refs .nilfn = [] ∧ (∀ t v, refs (.iface t v) = refs v) ∧
    refs .nili = [] ∧ (∀ cs, refs (.agg cs) = refsL cs) ∧ (∀ cs, refs (.tup cs) = refsL cs) ∧ refs .dead = [] := by
  refine ⟨?_, ?_, ?_, ?_, ?_, ?_, ?_, ?_, ?_, ?_, ?_, ?_, ?_, ?_, ?_, ?_, ?_, ?_, ?_, ?_⟩ <;> intros <;> simp [refs]
theorem renE (g : Nat → Nat) : (∀ b, ren g (.bool b) = .bool b) ∧ (∀ k n, ren g (.int k n) = .int k n) ∧ (∀ s, ren g (.str s) = .str s) ∧ ren g .nilp = .nilp ∧ (∀ b o, ren g (.ptr b o) = .ptr (g b) o) ∧ (∀ cs o, ren g (.iptr cs o) = .iptr cs o) ∧ ren g .nils = .nils ∧
    (∀ f s es, ren g (.sl f s es) = .sl f s es) ∧ (∀ b n, ren g (.acc b n) = .acc (g b) n) ∧ (∀ b s o n, ren g (.ref b s o n) = .ref (g b) s o n) ∧ ren g .nilm = .nilm ∧ (∀ b, ren g (.map b) = .map (g b)) ∧ (∀ f a c, ren g (.fn f a c) = .fn f (renL g a) (renL g c)) ∧
    ren g .nilfn = .nilfn ∧ (∀ t v, ren g (.iface t v) = .iface t (ren g v)) ∧ ren g .nili = .nili ∧ (∀ cs, ren g (.agg cs) = .agg (renL g cs)) ∧ (∀ cs, ren g (.tup cs) = .tup (renL g cs)) ∧ ren g .dead = .dead := by
  refine ⟨?_, ?_, ?_, ?_, ?_, ?_, ?_, ?_, ?_, ?_, ?_, ?_, ?_, ?_, ?_, ?_, ?_, ?_, ?_⟩ <;> intros <;> simp [ren]
theorem natNotNeg (n : Nat) : ((n : Int) < 0) = False := by simp
def bandI (k : IntKind) (x y : Int) : Int := k.wrap (BitVec.ofInt k.bits x &&& BitVec.ofInt k.bits y).toNat
def borI (k : IntKind) (x y : Int) : Int := k.wrap (BitVec.ofInt k.bits x ||| BitVec.ofInt k.bits y).toNat
def bxorI (k : IntKind) (x y : Int) : Int := k.wrap (BitVec.ofInt k.bits x ^^^ BitVec.ofInt k.bits y).toNat
def bclrI (k : IntKind) (x y : Int) : Int := k.wrap (BitVec.ofInt k.bits x &&& ~~~ BitVec.ofInt k.bits y).toNat
theorem intBinE : (∀ k x y, intBin .add k x y = some (.int k (k.wrap (x + y)))) ∧ (∀ k x y, intBin .sub k x y = some (.int k (k.wrap (x - y)))) ∧ (∀ k x y, intBin .mul k x y = some (.int k (k.wrap (x * y)))) ∧
    (∀ k x y, intBin .quo k x y = if y = 0 then none else some (.int k (k.wrap (x.tdiv y)))) ∧ (∀ k x y, intBin .rem k x y = if y = 0 then none else some (.int k (x.tmod y))) ∧
    (∀ k x y, intBin .and k x y = some (.int k (bandI k x y))) ∧ (∀ k x y, intBin .or k x y = some (.int k (borI k x y))) ∧ (∀ k x y, intBin .xor k x y = some (.int k (bxorI k x y))) ∧ (∀ k x y, intBin .andNot k x y = some (.int k (bclrI k x y))) ∧
    (∀ k x y, intBin .eql k x y = some (.bool (x == y))) ∧ (∀ k x y, intBin .neq k x y = some (.bool (x != y))) ∧ (∀ k x y, intBin .lss k x y = some (.bool (x < y))) ∧ (∀ k x y, intBin .leq k x y = some (.bool (x ≤ y))) ∧
    (∀ k x y, intBin .gtr k x y = some (.bool (x > y))) ∧ (∀ k x y, intBin .geq k x y = some (.bool (x ≥ y))) :=
  ⟨fun _ _ _ => rfl, fun _ _ _ => rfl, fun _ _ _ => rfl, fun _ _ _ => rfl, fun _ _ _ => rfl, fun _ _ _ => rfl, fun _ _ _ => rfl, fun _ _ _ => rfl, fun _ _ _ => rfl, fun _ _ _ => rfl, fun _ _ _ => rfl, fun _ _ _ => rfl, fun _ _ _ => rfl, fun _ _ _ => rfl, fun _ _ _ => rfl⟩
theorem skipE (f : FuncId) : E0.A.skip f = [147, 154, 257].contains f := rfl
end Go.Gm
