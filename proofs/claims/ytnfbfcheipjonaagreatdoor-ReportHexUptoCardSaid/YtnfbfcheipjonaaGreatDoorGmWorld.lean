/- The package-level variables that the rows list, as the ghost machine reads them; a world in which they lie. -/
import Derived.Test.YtnfbfcheipjonaaGreatDoorGmEnv
import Derived.Test.YtnfbfcheipjonaaGreatDoorCards
import Derived.Test.YtnfbfcheipjonaaGreatDoorTie
import Derived.WalkKit
import Derived.ProofKit
import Derived.OpenShut
import Derived.Deep.DeepHandedRow
import Derived.Deep.DeepWitnessRowRef
import Derived.Lib.LaidTab
import Derived.RowKit3
set_option maxRecDepth 100000
namespace Go.Proofs.YtnfbfcheipjonaaGreatDoor
open Go.ChangeShapes Go.WideShapes Go.ChangeAt Go.RowKit Go.ChangeMaps

theorem own : ownKnob Tryz.prog.godebug = none := by kernel_rfl
theorem tabIs_of {P : Program} {W : World} {name : String} {k : IntKind} {zs : List Int} {rest : List (String × DataW Unit)} {g : Nat} {t e : TypeId} {n : Nat} {ps : List MemPlace}
    (hg : P.globalNamed name = some g) (hty : (P.globals[g]?).map (·.type) = some t) (ht : P.underlying t = some (.array n e)) (he : P.underlying e = some (.int k)) (hce : P.cellsOf e = 1) (hct : P.cellsOf t = n)
    (h : DataW.LaidVars P W ((name, Lib.tabData k zs) :: rest) ps) : Lib.TabIs P W name k zs ∧ ∃ qs, DataW.LaidVars P W rest qs := by
  obtain ⟨g', t', cs, fuel, p, q, hg', ht', hvar, hd, hr, _⟩ := h
  obtain rfl := Option.some.inj (hg.symm.trans hg')
  obtain rfl := Option.some.inj (hty.symm.trans ht')
  unfold Lib.TabIs
  exact ⟨by rw [hvar, ← Lib.cells_of_tab ht he hce hct hd], q, hr⟩
theorem laid_skip {P : Program} {W : World} {x : String × DataW Unit} {rest : List (String × DataW Unit)} {ps : List MemPlace} (h : DataW.LaidVars P W (x :: rest) ps) : ∃ qs, DataW.LaidVars P W rest qs := by
  obtain ⟨g', t', cs, fuel, p, q, hg', ht', hvar, hd, hr, _⟩ := h
  exact ⟨q, hr⟩
theorem laid_all {W : World} (h : laidMetH Tryz.prog Rows.reportHexRow.laid W) : Lib.TabIs Tryz.prog W "internal/strconv.uint64pow10" .u64 Gm.pow10L ∧ Lib.TabIs Tryz.prog W "strings.asciiSpace" .u8 Gm.asciiSpaceL := by
  obtain ⟨ps, h0, _⟩ := h
  obtain ⟨_, h1⟩ := laid_skip h0
  obtain ⟨_, h2⟩ := laid_skip h1
  obtain ⟨e1, _, h3⟩ := tabIs_of (zs := Gm.pow10L) (k := .u64) (name := "internal/strconv.uint64pow10") (g := 2) (t := 353) (e := 256) (n := 20) (by kernel_rfl) (by kernel_rfl) (by kernel_rfl) (by kernel_rfl) (by kernel_rfl) (by kernel_rfl) h2
  obtain ⟨_, h4⟩ := laid_skip h3
  obtain ⟨e2, _, _⟩ := tabIs_of (zs := Gm.asciiSpaceL) (k := .u8) (name := "strings.asciiSpace") (g := 1) (t := 327) (e := 5) (n := 256) (by kernel_rfl) (by kernel_rfl) (by kernel_rfl) (by kernel_rfl) (by kernel_rfl) (by kernel_rfl) h4
  exact ⟨e1, e2⟩
theorem iptr_of {W : World} {g : Nat} {name : String} {k : IntKind} {zs : List Int} (hg : Tryz.prog.globalNamed name = some g) (h : Lib.TabIs Tryz.prog W name k zs) : Gm.VR (Gm.Sig.all W) (.iptr (Gm.tabOf k zs) 0) (.pointer (some ⟨g, 0, none⟩)) := by
  have hat : ∀ (j : Nat) (p : Gm.PV), (Gm.tabOf k zs)[j]? = some p → j < zs.length ∧ p = .int k (zs.getD j 0) := by
    intro j p hp
    simp only [Gm.tabOf, List.getElem?_map, Option.map_eq_some_iff] at hp
    obtain ⟨x, hx, rfl⟩ := hp
    obtain ⟨hj, rfl⟩ := List.getElem?_eq_some_iff.1 hx
    exact ⟨hj, by simp [List.getD, hj]⟩
  have := Gm.VR.iptr (σ := Gm.Sig.all W) (cs := Gm.tabOf k zs) (o := 0) (rb := g) (q := 0) (fun j => Value.int k (zs.getD j 0)) (fun j p hp => ?_) (fun j p hp => ?_) (fun j p hp => ?_)
  · simpa using this
  · obtain ⟨hj, rfl⟩ := hat j p hp
    have hc := h.cell hg j hj
    simp only [Gm.Sig.all, Gm.heapAt, Nat.zero_add]
    simp only [World.cell?] at hc
    split at hc
    · rename_i c t fr hh; simp only [hh]; simpa using hc
    · simp at hc
  · obtain ⟨hj, rfl⟩ := hat j p hp; simp [Gm.refs]
  · obtain ⟨hj, rfl⟩ := hat j p hp; exact .int _ _
theorem gok {W : World} (h : laidMetH Tryz.prog Rows.reportHexRow.laid W) : Gm.GOK Gm.E0 (Gm.Sig.all W) := by
  obtain ⟨h1, h2⟩ := laid_all h
  intro g cs e
  have e' : Gm.G0 g = some cs := e
  unfold Gm.G0 at e'
  split at e'
  · obtain rfl := Option.some.inj e'; exact iptr_of (by kernel_rfl) h2
  · obtain rfl := Option.some.inj e'; exact iptr_of (by kernel_rfl) h1
  · simp at e'

/-- Nothing of what was there has turned: as the rows say it. -/
theorem below_of {W W' : World} (h : Gm.Grown W W') : Below W.heap.size W W' := ⟨h.os, h.tape, h.out, h.size, h.heap⟩

/-- What a row's call leaves, if nothing of what was there has turned and its results hold no memory. -/
theorem post_grown {H : Type} {enc : TypeId × Value → H} {P : Program} {f : Func} {s : ChangeSpec} {apart fresh handsOn again : Bool} {W W' : World} {args : Array Value} {v : Value} {ds gs : List (DataW H)} {before pa pv : List MemPlace}
    (hW : DataW.Whole enc P f.params.toList s.vars apart W args.toList ds gs before) (hg : Gm.Grown W W')
    (hres : ∀ (b : Nat) (sp : Nat → Bool) (hd : Bool), DataW.TrodAll enc P W' b sp hd f.resultTypes.toList (v.resultList f.resultTypes.size) (s.fn H (ds ++ gs)).results [])
    (hargs : ∀ sp : Nat → Bool, (∀ p ∈ before, sp p.block = true) → DataW.TrodAll enc P W' 0 sp true f.params.toList args.toList (s.fn H (ds ++ gs)).args pa)
    (hvars : ∀ sp : Nat → Bool, (∀ p ∈ before, sp p.block = true) → DataW.TrodVars enc P W' sp s.vars (s.fn H (ds ++ gs)).vars pv) (hps : before = pa ++ pv)
    (hok : ∀ (j : Nat) (t : TypeId) (r : Value), f.resultTypes[j]? = some t → (v.resultList f.resultTypes.size)[j]? = some r → Value.okWide P W' .any 0 t r) :
    s.post enc P f apart fresh handsOn again W args v W' := by
  have hb := below_of hg
  have hlt : ∀ p ∈ before, p.block < W.heap.size := fun p hp => hW.lt p hp
  have hall : ∀ p ∈ before, (fun b => decide (b < W.heap.size)) p.block = true := fun p hp => decide_eq_true (hlt p hp)
  refine ⟨ds, gs, before, [], pa, pv, hW, hres _ _ _, hargs _ hall, hvars _ hall, ?_, fun _ => ?_⟩
  · exact World.keptBut_mono (fun p hp => ⟨hp, .inr (by rw [hps, List.mem_append] at hp; exact hp)⟩) (hb.frame (· ∈ before))
  · obtain ⟨_, _, _, _, _, hz, hn⟩ := hW
    refine ⟨hok, _, _, ([] ++ pa) ++ pv, ⟨[] ++ pa, pv, trodAll_append (hargs _ (fun _ _ => rfl)) (hres _ _ _), hvars _ (fun _ _ => rfl), rfl, fun b off hp => ?_, fun ha => ?_⟩, fun p hp _ => ?_⟩
    · have hin : MemPlace.cell b off ∈ before := by rw [hps]; simpa using hp
      rw [hb.frozen (hlt _ hin)]
      exact hz b off hin
    · have h1 := hn ha
      rw [hps] at h1
      simpa using h1
    · rw [hps]; simpa using hp

/-- A world for the witness: the settled one, each listed variable holding what its initialiser lays. -/
noncomputable def laidWorld (os : Os) : World :=
  let N := (World.settled Tryz.prog os).heap.size
  let w0 := World.holding Tryz.prog os ⟨#[.cells ([9, 13, 1, 32, 133, 101, 160, 5760, 5600, 8192, 8202, 1, 8232, 8233, 1, 8239, 8287, 48, 12288, 12288, 1].map fun (z : Int) => Value.int .u16 z).toArray 440, .cells #[.slice (some ⟨N, 0, none⟩) 7 7, .slice none 0 0, .int .i64 2] 437], #[], []⟩
  let put (h : Array Obj) (g : Nat) (cs : Array Value) : Array Obj := h.modify g fun
    | .cells _ t frozen => .cells cs t frozen
    | o => o
  let h1 := put w0.heap 1 (Gm.asciiSpaceL.map fun z => Value.int .u8 z).toArray
  let h2 := put h1 2 (Gm.pow10L.map fun z => Value.int .u64 z).toArray
  let h3 := put h2 3 #[.pointer (some ⟨N + 1, 0, none⟩)]
  let h4 := put h3 4 ([0, 1, 28, 2, 29, 14, 24, 3, 30, 22, 20, 15, 25, 17, 4, 8, 31, 27, 13, 23, 21, 19, 16, 7, 26, 12, 18, 6, 11, 5, 10, 9].map fun (z : Int) => Value.int .u8 z).toArray
  let h5 := put h4 5 ([0, 1, 56, 2, 57, 49, 28, 3, 61, 58, 42, 50, 38, 29, 17, 4, 62, 47, 59, 36, 45, 43, 51, 22, 53, 39, 33, 30, 24, 18, 12, 5, 63, 55, 48, 27, 60, 41, 37, 16, 46, 35, 44, 21, 52, 32, 23, 11, 54, 26, 40, 15, 34, 20, 31, 10, 25, 14, 19, 9, 13, 8, 7, 6].map fun (z : Int) => Value.int .u8 z).toArray
  { w0 with heap := h5 }
theorem laid_met (os : Os) (args : Array Value) : laidMet Tryz.prog Rows.reportHexRow.laid ((laidWorld os).forCall (fun _ _ => 0) ⟨#[], args, []⟩).memory :=
  laidMet_of_run' 10 (by kernel_rfl) (by kernel_rfl)
end Go.Proofs.YtnfbfcheipjonaaGreatDoor
