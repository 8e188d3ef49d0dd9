/- The ghost machine, part 24: an operation looks at its operands alone. -/
import Derived.Test.YtnfbfcheipjonaaGreatDoorGm23
set_option linter.unusedSimpArgs false
set_option linter.unusedVariables false
namespace Go.Gm
section
variable {P : Program} {A : Ann} {f : FuncId} {ρ ρ' : Operand → PV} {o : Oper} {m : Mem}

theorem map_congr_mem {l : Array Operand} (h : ∀ x ∈ l, ρ x = ρ' x) : l.toList.map ρ = l.toList.map ρ' :=
  List.map_congr_left fun x hx => h x (by simpa using hx)
theorem parts_congr {ps : Array (Nat × Operand)} (h : ∀ x ∈ (ps.toList.map (·.2)).toArray, ρ x = ρ' x) : (ps.toList.map fun p => (p.1, ρ p.2)) = ps.toList.map fun p => (p.1, ρ' p.2) :=
  List.map_congr_left fun p hp => by rw [h p.2 (by simp only [List.mem_toArray, List.mem_map]; exact ⟨p, hp, rfl⟩)]

theorem gop_congr (h : ∀ x ∈ o.op.operands, ρ x = ρ' x) : gop P A f ρ o m = gop P A f ρ' o m := by
  unfold gop
  cases ho : o.op <;> rw [ho] at h <;> simp only [Op.operands] at h <;> try simp only
  case build t ps => rw [parts_congr h]
  case buildSlice t n ps => rw [parts_congr h]
  case makeMap t r => cases r <;> rfl
  case makeFunc fn a c =>
    rw [map_congr_mem (l := a) fun x hx => h x (by simp [hx]), map_congr_mem (l := c) fun x hx => h x (by simp [hx])]
  case slice t x lo hi mx =>
    cases mx with
    | some y => rfl
    | none =>
      have hx : ρ x = ρ' x := h x (by simp)
      have hl : lo.map ρ = lo.map ρ' := by cases lo with | none => rfl | some y => simp [h y (by simp)]
      have hh : hi.map ρ = hi.map ρ' := by cases hi with | none => rfl | some y => simp [h y (by simp)]
      simp only [hx, hl, hh]
  case call c =>
    have hargs : c.args.toList.map ρ = c.args.toList.map ρ' := map_congr_mem fun x hx => h x (by simp [Call.operands, hx])
    simp only [hargs]
    cases hc : c.callee with
    | value g => have hg : ρ g = ρ' g := h g (by simp [Call.operands, hc]); simp only [hg]
    | invoke r n => have hr : ρ r = ρ' r := h r (by simp [Call.operands, hc]); simp only [hr]
    | builtin b => rfl
  all_goals first
    | rfl
    | (simp at h; simp only [h]; done)
    | (simp_all; done)

theorem wantedP_congr {ops : Array Oper} {r r' : List PV} (h : ∀ t ∈ o.looksAt ops, get r t = get r' t) : wantedP ops r o = wantedP ops r' o := by
  unfold wantedP
  cases hg : o.guard with
  | none => rfl
  | some jw =>
    obtain ⟨j, want⟩ := jw
    simp only
    cases hd : (ops[j]?).bind (·.dst) with
    | none => rfl
    | some d => simp only [h d (by simp [Oper.looksAt, hg, hd])]

theorem geval_congr {G : Nat → Option (List PV)} {ops : Array Oper} {r r' : List PV} (h : ∀ t ∈ o.looksAt ops, get r t = get r' t) : ∀ x ∈ o.op.operands, geval G r x = geval G r' x := by
  intro x hx
  cases x with
  | tmp t => exact h t (List.mem_append_left _ (List.mem_filterMap.2 ⟨.tmp t, by simpa using hx, rfl⟩))
  | _ => rfl

/-- A step that leaves a value, with the registers that it looks at alike. -/
theorem opStep_congr {E : Env} {call : FuncId → List PV → Mem → Option (CRes × Mem)} {ops : Array Oper} {r r' : List PV} (h : ∀ t ∈ o.looksAt ops, get r t = get r' t) {s' : St}
    {d : List (FuncId × List PV)} (hd : deferP (geval E.G r) o = none) (hs : opStep E call f ops o ⟨r, m, d⟩ = some (.norm, s')) : s'.d = d ∧ ∃ v, s'.r = putD r o.dst v ∧ opStep E call f ops o ⟨r', m, d⟩ = some (.norm, ⟨putD r' o.dst v, s'.m, d⟩) := by
  unfold opStep at hs ⊢
  simp only [← wantedP_congr h, ← gop_congr (P := E.P) (A := E.A) (f := f) (m := m) (geval_congr (G := E.G) h)]
  split at hs
  · simp at hs
  · rename_i hw
    simp only [Option.some.injEq, Prod.mk.injEq, true_and] at hs
    subst hs
    exact ⟨rfl, _, rfl, by simp only [hw]⟩
  · rename_i hw
    split at hs
    · simp [hd] at hs
    · rename_i hgo
      simp only [Option.some.injEq, Prod.mk.injEq, true_and] at hs
      subst hs
      exact ⟨rfl, _, rfl, by simp only [hw, hgo]⟩
    · simp at hs
    · rename_i hgo
      split at hs
      · simp at hs
      · rename_i hca
        simp only [Option.some.injEq, Prod.mk.injEq, true_and] at hs
        subst hs
        exact ⟨rfl, _, rfl, by simp only [hw, hgo, hca]⟩
      · simp at hs
/-- A step that panics, with the registers that it looks at alike. -/
theorem opStep_congr_panic {E : Env} {call : FuncId → List PV → Mem → Option (CRes × Mem)} {ops : Array Oper} {r r' : List PV} (h : ∀ t ∈ o.looksAt ops, get r t = get r' t) {s' : St} {v : PV}
    {d : List (FuncId × List PV)} (hs : opStep E call f ops o ⟨r, m, d⟩ = some (.panic v, s')) : opStep E call f ops o ⟨r', m, d⟩ = some (.panic v, ⟨r', s'.m, d⟩) := by
  unfold opStep at hs ⊢
  simp only [← wantedP_congr h, ← gop_congr (P := E.P) (A := E.A) (f := f) (m := m) (geval_congr (G := E.G) h)]
  split at hs
  · simp at hs
  · simp at hs
  · rename_i hw
    split at hs
    · split at hs <;> simp at hs
    · simp at hs
    · rename_i u hgo
      simp only [Option.some.injEq, Prod.mk.injEq, Ex.panic.injEq] at hs
      obtain ⟨rfl, rfl⟩ := hs
      simp only [hw, hgo]
    · rename_i hgo
      split at hs
      · simp at hs
      · simp at hs
      · rename_i hca
        simp only [Option.some.injEq, Prod.mk.injEq, Ex.panic.injEq] at hs
        obtain ⟨rfl, rfl⟩ := hs
        simp only [hw, hgo, hca]
end
end Go.Gm
