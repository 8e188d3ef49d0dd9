/- A drawn region whose operations stand free of one another: run it in the text's order. -/
import Derived.Test.YtnfbfcheipjonaaGreatDoorGmHex
namespace Go.Gm
section
variable {E : Env} {call : FuncId → List PV → Mem → Option (CRes × Mem)} {f : FuncId} {ops : Array Oper}
theorem runT_none : ∀ (l : List Oper) (s : St), runT E call f ops l s = none → ∀ s', opSteps E call f ops l s ≠ some (.norm, s')
  | [], s, h, s' => by simp [runT] at h
  | o :: rest, s, h, s' => by
    unfold runT at h
    unfold opSteps
    split at h
    · rename_i s1 hs
      rw [hs]
      cases hr : runT E call f ops rest s1 with
      | none => exact runT_none rest s1 hr s'
      | some l => rw [hr] at h; simp at h
    · rename_i h1
      intro h2
      split at h2
      · rename_i s1 hs
        exact h1 _ hs
      · rename_i h3
        exact h1 _ h2
theorem runT_some : ∀ (l : List Oper) (s : St) (sts : List St), runT E call f ops l s = some sts → opSteps E call f ops l s = some (.norm, sts.getD l.length default)
  | [], s, sts, h => by simp [runT] at h; subst h; rfl
  | o :: rest, s, sts, h => by
    unfold runT at h
    unfold opSteps
    split at h
    · rename_i s1 hs
      rw [hs]
      cases hr : runT E call f ops rest s1 with
      | none => rw [hr] at h; simp at h
      | some l =>
        rw [hr] at h
        simp only [Option.some.injEq] at h
        subst h
        simpa using runT_some rest s1 l hr
    · simp at h
theorem drawS {id : Nat} (hs : E.A.skip f = false) (hf : E.A.flo f id = []) (s : St) :
    drawE E call f id ops s = match opSteps E call f ops ops.toList s with | some (.norm, s') => some (.norm, s') | _ => drawP E call f id ops s := by
  unfold drawE
  rw [hs]
  simp only [Bool.false_eq_true, if_false]
  cases h : runT E call f ops ops.toList s with
  | none =>
    simp only
    split
    · rename_i s' e
      exact absurd e (runT_none _ _ h s')
    · rfl
  | some sts =>
    rw [runT_some _ _ _ h]
    simp [dynOK, hf]
end
end Go.Gm
