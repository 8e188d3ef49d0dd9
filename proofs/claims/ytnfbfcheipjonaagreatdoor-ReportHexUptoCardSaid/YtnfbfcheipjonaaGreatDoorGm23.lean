/- The ghost machine, part 23: drawn regions, definitions; operations that look at their operands alone. -/
import Derived.Test.YtnfbfcheipjonaaGreatDoorGm22c
import Derived.Orders
set_option linter.unusedSimpArgs false
set_option linter.unusedVariables false
namespace Go.Gm

/-! ### Equality that is decided by form -/
mutual
def same : PV → PV → Bool
  | .bool a, .bool b => a == b
  | .int k a, .int k' b => decide (k = k') && a == b
  | .str a, .str b => decide (a = b)
  | .nilp, .nilp => true
  | .ptr a b, .ptr c d => a == c && b == d
  | .iptr a b, .iptr c d => sameL a c && b == d
  | .nils, .nils => true
  | .sl a b c, .sl d e f => a == d && b == e && sameLL c f
  | .acc a b, .acc c d => a == c && b == d
  | .accp a b, .accp c d => a == c && b == d
  | .ref a b c d, .ref e f g h => a == e && b == f && c == g && d == h
  | .nilm, .nilm => true
  | .map a, .map b => a == b
  | .fn f a b, .fn g c d => decide (f = g) && sameL a c && sameL b d
  | .nilfn, .nilfn => true
  | .iface t v, .iface u x => t == u && same v x
  | .nili, .nili => true
  | .agg a, .agg b => sameL a b
  | .tup a, .tup b => sameL a b
  | .dead, .dead => true
  | _, _ => false
def sameL : List PV → List PV → Bool
  | [], [] => true
  | a :: r, b :: s => same a b && sameL r s
  | _, _ => false
def sameLL : List (List PV) → List (List PV) → Bool
  | [], [] => true
  | a :: r, b :: s => sameL a b && sameLL r s
  | _, _ => false
end
mutual
theorem same_eq : ∀ a b : PV, same a b = true → a = b
  | .bool a, b, h => by cases b <;> simp_all [same]
  | .int k a, b, h => by cases b <;> simp_all [same]
  | .str a, b, h => by cases b <;> simp_all [same]
  | .nilp, b, h => by cases b <;> simp_all [same]
  | .ptr _ _, b, h => by cases b <;> simp_all [same]
  | .iptr x _, b, h => by
    cases b <;> simp only [same, Bool.and_eq_true, beq_iff_eq, Bool.false_eq_true] at h
    rw [sameL_eq x _ h.1, h.2]
  | .nils, b, h => by cases b <;> simp_all [same]
  | .sl _ _ x, b, h => by
    cases b <;> simp only [same, Bool.and_eq_true, beq_iff_eq, Bool.false_eq_true] at h
    rw [sameLL_eq x _ h.2, h.1.1, h.1.2]
  | .acc _ _, b, h => by cases b <;> simp_all [same]
  | .accp _ _, b, h => by cases b <;> simp_all [same]
  | .ref _ _ _ _, b, h => by cases b <;> simp_all [same]
  | .nilm, b, h => by cases b <;> simp_all [same]
  | .map _, b, h => by cases b <;> simp_all [same]
  | .fn _ x y, b, h => by
    cases b <;> simp only [same, Bool.and_eq_true, decide_eq_true_eq, Bool.false_eq_true] at h
    rw [sameL_eq x _ h.1.2, sameL_eq y _ h.2, h.1.1]
  | .nilfn, b, h => by cases b <;> simp_all [same]
  | .iface _ v, b, h => by
    cases b <;> simp only [same, Bool.and_eq_true, beq_iff_eq, Bool.false_eq_true] at h
    rw [same_eq v _ h.2, h.1]
  | .nili, b, h => by cases b <;> simp_all [same]
  | .agg x, b, h => by
    cases b <;> simp only [same, Bool.false_eq_true] at h
    rw [sameL_eq x _ h]
  | .tup x, b, h => by
    cases b <;> simp only [same, Bool.false_eq_true] at h
    rw [sameL_eq x _ h]
  | .dead, b, h => by cases b <;> simp_all [same]
theorem sameL_eq : ∀ a b : List PV, sameL a b = true → a = b
  | [], b, h => by cases b <;> simp_all [sameL]
  | a :: r, b, h => by
    cases b <;> simp only [sameL, Bool.and_eq_true, Bool.false_eq_true] at h
    rw [same_eq a _ h.1, sameL_eq r _ h.2]
theorem sameLL_eq : ∀ a b : List (List PV), sameLL a b = true → a = b
  | [], b, h => by cases b <;> simp_all [sameLL]
  | a :: r, b, h => by
    cases b <;> simp only [sameLL, Bool.and_eq_true, Bool.false_eq_true] at h
    rw [sameL_eq a _ h.1, sameLL_eq r _ h.2]
end

/-! ### Operations that leave memory alone -/
def pureO (A : Ann) (f : FuncId) (o : Oper) : Bool :=
  match o.op with
  | .move _ | .pick .. | .load .. | .nilCheck _ | .binOp .. | .unOp .. | .convert .. | .makeInterface .. | .makeFunc .. | .slice .. | .fieldAddr .. | .field .. | .indexAddr .. | .index .. | .extract .. | .build .. | .lookup .. => true
  | .buildSlice .. => litD A f o.dst
  | .assign _ => match o.dst with
    | some d => (A.acc0 f d).isNone
    | none => true
  | .call c => match c.callee with
    | .builtin .len | .builtin .min | .builtin .max => true
    | _ => false
  | _ => false
/-- And do not look at it either. -/
def indepO (A : Ann) (f : FuncId) (o : Oper) : Bool :=
  match o.op with
  | .convert s d _ => !A.mem s d
  | .binOp _ t _ _ _ => !A.peq t
  | .move _ | .pick .. | .unOp .. | .makeInterface .. | .makeFunc .. | .field .. | .index .. | .extract .. => true
  | .assign _ => pureO A f o
  | .call c => match c.callee with
    | .builtin .min | .builtin .max => true
    | _ => false
  | _ => false

section
variable {P : Program} {A : Ann} {f : FuncId} {ρ : Operand → PV} {o : Oper} {m m' : Mem}

theorem opt_mem {x : Option PV} {out : Out} (h : (x.map fun v => Out.val v m) = some out) : ∃ v, out = .val v m := by
  obtain ⟨v, _, rfl⟩ := Option.map_eq_some_iff.1 h; exact ⟨v, rfl⟩

theorem pure_mem (hp : pureO A f o = true) {out : Out} (h : gop P A f ρ o m = some out) : ∃ v, out = .val v m := by
  cases ho : o.op <;> simp only [pureO, ho, Bool.false_eq_true] at hp <;> simp only [gop, ho] at h
  case slice t x lo hi mx => cases mx <;> simp only at h <;> first | exact opt_mem h | simp at h
  case buildSlice t n ps =>
    have hm : mutD A f o.dst = false := by
      revert hp; unfold litD mutD; cases o.dst <;> simp
    simp only [hm, hp, if_true, Bool.false_eq_true, if_false] at h
    (repeat' split at h) <;> first | (simp at h; done) | exact ⟨_, (Option.some.inj h).symm⟩
  case assign x =>
    cases hd : o.dst with
    | none =>
      simp only [hd] at h
      split at h <;> first | exact ⟨_, (Option.some.inj h).symm⟩ | simp_all
    | some d =>
      simp only [hd, Option.isNone_iff_eq_none] at hp h
      rw [hp] at h
      split at h <;> first | exact ⟨_, (Option.some.inj h).symm⟩ | simp_all
  case call c =>
    split at hp <;> rename_i hc <;> first | (simp at hp; done) | skip
    all_goals
      simp only [hc, builtinP] at h
      (repeat' split at h) <;> first | contradiction | (simp at h; done) | exact ⟨_, (Option.some.inj h).symm⟩
  all_goals first
    | exact ⟨_, (Option.some.inj h).symm⟩
    | exact opt_mem h
    | ((repeat' split at h) <;> first | (simp at h; done) | exact opt_mem h | exact ⟨_, (Option.some.inj h).symm⟩ |
        (obtain ⟨v, _, rfl⟩ := Option.map_eq_some_iff.1 h; exact ⟨_, rfl⟩))

theorem opt_any {x : Option PV} {v : PV} (h : (x.map fun v => Out.val v m) = some (.val v m)) : (x.map fun v => Out.val v m') = some (.val v m') := by
  obtain ⟨u, hu, he⟩ := Option.map_eq_some_iff.1 h
  simp only [Out.val.injEq] at he
  rw [hu, he.1]; rfl

theorem indep_any (hp : indepO A f o = true) {v : PV} (h : gop P A f ρ o m = some (.val v m)) : gop P A f ρ o m' = some (.val v m') := by
  cases ho : o.op <;> simp only [indepO, ho, Bool.false_eq_true] at hp <;> simp only [gop, ho] at h ⊢
  case assign x =>
    simp only [pureO, ho] at hp
    cases hd : o.dst with
    | none =>
      simp only [hd] at h ⊢
      split at h <;> simp_all
    | some d =>
      simp only [hd, Option.isNone_iff_eq_none] at hp h ⊢
      rw [hp] at h ⊢
      split at h <;> simp_all
  case call c =>
    split at hp <;> rename_i hc <;> first | (simp at hp; done) | skip
    all_goals
      simp only [hc, builtinP] at h ⊢
      (repeat' split at h) <;> first | contradiction | (simp at h; done) | (simp_all; done) | (simp_all; rw [if_neg (by omega)]; assumption)
  all_goals first
    | (simp only [Option.some.injEq, Out.val.injEq] at h ⊢; exact ⟨h.1, rfl⟩)
    | exact opt_any h
    | ((repeat' split at h) <;> first | (simp at h; done) | simp_all)
end
end Go.Gm
