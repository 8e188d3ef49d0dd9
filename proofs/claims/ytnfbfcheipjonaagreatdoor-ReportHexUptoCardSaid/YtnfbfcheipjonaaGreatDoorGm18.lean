/- The ghost machine, part 18: what a function hands back, and what is frozen there. -/
import Derived.Test.YtnfbfcheipjonaaGreatDoorGm17
set_option linter.unusedSimpArgs false
set_option linter.unusedVariables false
namespace Go.Gm
section
variable {P : Program} {σ : Sig} {w : World} {a : Act}

theorem resList_ok {s : St} (hs : Sim σ s.m w) (hr : Row σ s.r a.tmps) : ∀ (l : List ResultVar) (ps : List PV), resP P s l = some ps →
    ∃ vs : List Value, (l.mapM (m := Sem) fun
      | .tmp t => pure (a.tmps.getD t undef)
      | .cell c t => do loadVar t (← asAddr (a.tmps.getD c undef))).run P w = .ok vs w ∧ Row σ ps vs.toArray
  | [], ps, h => by
    simp only [resP, Option.some.injEq] at h
    subst h
    exact ⟨[], by simp [run_pure'], rfl, fun j p v a _ => by simp at a⟩
  | .tmp t :: rest, ps, h => by
    simp only [resP] at h
    obtain ⟨l, hl, rfl⟩ := Option.map_eq_some_iff.1 h
    obtain ⟨vs, h1, h2⟩ := resList_ok hs hr rest l hl
    refine ⟨a.tmps.getD t undef :: vs, ?_, by simp [h2.1], fun j p v e1 e2 => ?_⟩
    · simp only [List.mapM_cons, Sem.run_bind, run_pure', Result.andThen_ok, h1]
    · match j with
      | 0 => simp at e1 e2; subst e1; subst e2; have := hr.got t; simpa using this
      | j + 1 => exact h2.2 j p v (by simpa using e1) (by simpa using e2)
  | .cell c t :: rest, ps, h => by
    simp only [resP] at h
    split at h
    · rename_i i b o hi hb
      split at h
      · rename_i cs hm
        split at h
        · rename_i v l hv hl
          simp only [Option.some.injEq] at h
          subst h
          obtain ⟨vs, h1, h2⟩ := resList_ok hs hr rest l hl
          have hx := hr.got c
          rw [hb] at hx
          generalize hva : a.tmps.getD c undef = va at hx
          cases hx with
          | ptrG e => have := hs.blk _ _ _ e hm; simp [blkOK] at this
          | ptr e =>
            rename_i rb mm
            obtain ⟨u, hu, hvr⟩ := run_loadVar hi (lies_var hs e hm) hv
            rw [Nat.zero_add] at hu
            refine ⟨u :: vs, ?_, by simp [h2.1], fun j p v e1 e2 => ?_⟩
            · rw [List.mapM_cons]
              simp only [Sem.run_bind]
              have : (asAddr (a.tmps.getD c undef)).run P w = .ok ⟨rb, o, none⟩ w := by rw [hva]; rfl
              simp only [this, Result.andThen_ok, hu, h1, run_pure']
            · match j with
              | 0 => simp at e1 e2; subst e1; subst e2; exact hvr
              | j + 1 => exact h2.2 j p v (by simpa using e1) (by simpa using e2)
        · simp at h
      · simp at h
    · simp at h

theorem results_ok {s : St} {fn : Func} (hs : Sim σ s.m w) (hr : Row σ s.r a.tmps) {ps : List PV} (h : resP P s fn.results.toList = some ps) : ∃ v, (results fn a.tmps).run P w = .ok v w ∧ VR σ (packP ps) v := by
  obtain ⟨vs, h1, h2⟩ := resList_ok (P := P) hs hr _ _ h
  have hm : (fn.results.mapM (m := Sem) fun
      | .tmp t => pure (a.tmps.getD t undef)
      | .cell c t => do loadVar t (← asAddr (a.tmps.getD c undef))).run P w = .ok vs.toArray w := by
    rw [Array.mapM_eq_mapM_toList, map_eq_pure_bind]
    simp only [Sem.run_bind, h1, Result.andThen_ok, run_pure']
  have hres : (results fn a.tmps).run P w = .ok (if h : vs.toArray.size = 1 then vs.toArray[0] else .tuple vs.toArray) w := by
    unfold results
    rw [Sem.run_bind]
    exact (congrArg (fun r => Result.andThen r _) hm).trans rfl
  refine ⟨_, hres, ?_⟩
  split
  · rename_i h1s
    match ps, vs, h2, h1s with
    | [p], [v], h2, _ => exact h2.2 0 p v rfl rfl
    | [], [v], h2, _ => have := h2.1; simp at this
    | _ :: _ :: _, [v], h2, _ => have := h2.1; simp at this
  · rename_i hne
    have : packP ps = .tup ps := by
      match ps, h2 with
      | [p], h2 => have := h2.1; simp at this; simp at hne; omega
      | [], _ => rfl
      | _ :: _ :: _, _ => rfl
    rw [this]
    exact .tup h2.1 h2.2
end
end Go.Gm
