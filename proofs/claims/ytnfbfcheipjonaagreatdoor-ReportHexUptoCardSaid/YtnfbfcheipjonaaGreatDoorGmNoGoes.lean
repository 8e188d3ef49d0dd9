/- Of a program in which no function starts a goroutine, no call starts one. -/
import GoSem.ClaimGoes
namespace Go
theorem any_slot {α : Type} {p : α → Bool} {a : Array α} (h : a.any p = false) (i : Nat) : (a[i]?).any p = false := by
  cases e : a[i]? with
  | none => rfl
  | some x =>
    have hx := Array.mem_of_getElem? e
    rw [Array.any_eq_false'] at h
    have := h x hx
    simpa using this
theorem no_goes {P : Program} (h : P.funcs.any Func.goes = false) (f : FuncId) : P.goes f = false := by
  unfold Program.goes
  rw [h, Bool.and_false, Bool.or_false, List.any_eq_false]
  intro g _
  rw [any_slot h g]
  exact Bool.false_ne_true
theorem no_goesAt {P : Program} (h : P.funcs.any Func.goes = false) (f : String) : P.goesAt .entering f = false := by
  unfold Program.goesAt Program.goesFrom
  rw [Bool.or_false]
  cases P.funcNamed f with
  | none => rfl
  | some g => exact no_goes h g
end Go
