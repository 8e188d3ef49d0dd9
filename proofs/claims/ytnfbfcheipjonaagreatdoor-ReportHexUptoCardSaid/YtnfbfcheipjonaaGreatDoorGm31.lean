/- The ghost machine, part 31: from what was computed to what a call does in a world. -/
import Derived.Test.YtnfbfcheipjonaaGreatDoorGm30
set_option linter.unusedSimpArgs false
set_option linter.unusedVariables false
namespace Go.Gm

/-- All that is there is taken as it is. -/
def Sig.all (w : World) : Sig := ⟨fun r o => heapAt w r o, []⟩
theorem Sim.all (w : World) : Sim (Sig.all w) [] w where
  len := rfl
  blk i k b h := by simp [Sig.all] at h
  inj i j k k' r _ h := by simp [Sig.all] at h
  Ic r o v h := by
    simp only [Sig.all, heapAt] at h
    split at h
    · rename_i c et fr hh; exact ⟨c, et, fr, hh, h⟩
    · simp at h
  Iv i rb n h := by simp [Sig.all] at h
  Ia i r K sz es h := by simp [Sig.all] at h

/-- Nothing of what was there has turned. -/
structure Grown (w w' : World) : Prop where
  size : w.heap.size ≤ w'.heap.size
  heap : ∀ r, r < w.heap.size → w'.heap[r]? = w.heap[r]?
  os : w'.os = w.os
  out : w'.output = w.output
  tape : w'.tape = w.tape
theorem Frm.grown {w w' : World} (h : Frm (Sig.all w) w w') : Grown w w' :=
  ⟨h.size, fun r hr => h.blk r hr (fun ⟨i, k, hk, _⟩ => by simp [Sig.all] at hk), h.os, h.out, h.tape⟩

theorem Runs.calls {E : Env} (hE : ∀ n g, FunOK E g (run E n g)) {g : FuncId} {as : List PV} {vs : Array Value} {w : World} {p : PV} {m' : Mem} (h : Runs E g as [] (.ret p) m') (hG : GOK E (Sig.all w)) (hr : Row (Sig.all w) as vs) :
    Calls E.P g vs w fun e w' => Grown w w' ∧ ∃ v σ', e = .returned v ∧ VR σ' p v := by
  obtain ⟨n, hn⟩ := h
  refine ((hE n g) _ _ w as vs _ _ (Sim.all w) hG hr hn).2.mono fun e w' ⟨σ', h1, h2, h3, h4⟩ => ⟨h2.grown, ?_⟩
  cases e with
  | returned v => exact ⟨v, σ', rfl, h4⟩
  | panicked ch => exact h4.elim
  | outgrown => exact h4.elim
theorem Runs.calls_bool {E : Env} (hE : ∀ n g, FunOK E g (run E n g)) {g : FuncId} {as : List PV} {vs : Array Value} {w : World} {b : Bool} {m' : Mem} (h : Runs E g as [] (.ret (.bool b)) m') (hG : GOK E (Sig.all w)) (hr : Row (Sig.all w) as vs) :
    Calls E.P g vs w fun e w' => e = .returned (.bool b) ∧ Grown w w' :=
  (Runs.calls hE h hG hr).mono fun e w' ⟨h1, v, σ', h2, h3⟩ => ⟨by cases h3; exact h2, h1⟩
theorem Row.str (σ : Sig) (s : ByteArray) : Row σ [.str s] #[.string s] := Row.one (.str s)
end Go.Gm
