/- 'ReportHex' on the ghost machine. -/
import Derived.Test.YtnfbfcheipjonaaGreatDoorGmUnhexEq
import Derived.Test.YtnfbfcheipjonaaGreatDoorGmLives
set_option maxRecDepth 100000
set_option linter.unusedSimpArgs false
namespace Go.Gm
open Go.Proofs
theorem c10 (k : Nat) (m : Mem) (hk : 130 ≤ k) : callN E0 k 10 [] m = some (.ret (.bool true), m) := by
  obtain ⟨x, hx, he⟩ := Option.map_eq_some_iff.1 lives_run
  refine callN_pure ?_ rfl rfl
  rw [run_le 130 k 10 [] [] x hk hx]
  exact congrArg some he
theorem eqB (a b : Bool) : eqT E0.P 30 4 (.bool a) (.bool b) = some (a == b) := by
  cases a <;> cases b <;> kernel_rfl
theorem f3 (k : Nat) (s : ByteArray) (hs : s.size ≤ 1048576) (hk : s.size + 300 ≤ k) : (run E0 (k + 1) 3 [.str s] []).map Prod.fst = some (.ret (.bool true)) := by
  have h6 := fun m => c6 k s m (by unfold maxB; omega) (by omega)
  have h7 := fun m => c7 k s m (by unfold maxB; omega) (by omega)
  have h8 := fun m => c8 k s m (by unfold maxB; omega) (by omega)
  have h9 := fun m => c9 k s m (by unfold maxB; omega) (by omega)
  have h10 := fun m => c10 k m (by omega)
  rw [runS (primE _) (fn_of Tryz.func3) rfl]
  cases hu : unRes s with
  | none =>
    rw [hu] at h6 h7
    simp only [unP] at h6 h7
    simp [execE, opSteps, opStep, wantedP, gop, geval, get, put, putD, ofV, ofV1, kdE, tt, fillP, PV.cells, okc, PV.one, refsE, refsL, splice, mutD, mutbE, acc0E, memE, peqE, litE, keepE, primE, GE, pur, pur1, chunks, builtinP, appendP, elems, szOk, lenP, rd, bin, intBinE, un, sliceQ, sliceP, asNat, extE, extT, extV, entP, lookP, setP, delP, leaveP, resP, frz, frz1, packP, killed0, deferP, eqPtr, eqPtr0, eqV, eqShape, isAggP, List.replicate, natNotNeg, Int.toNat_natCast, finE, Tryz.f3, h6]
    simp [execE, opSteps, opStep, wantedP, gop, geval, get, put, putD, ofV, ofV1, kdE, tt, fillP, PV.cells, okc, PV.one, refsE, refsL, splice, mutD, mutbE, acc0E, memE, peqE, litE, keepE, primE, GE, pur, pur1, chunks, builtinP, appendP, elems, szOk, lenP, rd, bin, intBinE, un, sliceQ, sliceP, asNat, extE, extT, extV, entP, lookP, setP, delP, leaveP, resP, frz, frz1, packP, killed0, deferP, eqPtr, eqPtr0, eqV, eqShape, isAggP, List.replicate, natNotNeg, Int.toNat_natCast, finE, h7]
    simp [execE, opSteps, opStep, wantedP, gop, geval, get, put, putD, ofV, ofV1, kdE, tt, fillP, PV.cells, okc, PV.one, refsE, refsL, splice, mutD, mutbE, acc0E, memE, peqE, litE, keepE, primE, GE, pur, pur1, chunks, builtinP, appendP, elems, szOk, lenP, rd, bin, intBinE, un, sliceQ, sliceP, asNat, extE, extT, extV, entP, lookP, setP, delP, leaveP, resP, frz, frz1, packP, killed0, deferP, eqPtr, eqPtr0, eqV, eqShape, isAggP, List.replicate, natNotNeg, Int.toNat_natCast, finE, h8]
    simp [execE, opSteps, opStep, wantedP, gop, geval, get, put, putD, ofV, ofV1, kdE, tt, fillP, PV.cells, okc, PV.one, refsE, refsL, splice, mutD, mutbE, acc0E, memE, peqE, litE, keepE, primE, GE, pur, pur1, chunks, builtinP, appendP, elems, szOk, lenP, rd, bin, intBinE, un, sliceQ, sliceP, asNat, extE, extT, extV, entP, lookP, setP, delP, leaveP, resP, frz, frz1, packP, killed0, deferP, eqPtr, eqPtr0, eqV, eqShape, isAggP, List.replicate, natNotNeg, Int.toNat_natCast, finE, h9, eqB]
    simp [execE, opSteps, opStep, wantedP, gop, geval, get, put, putD, ofV, ofV1, kdE, tt, fillP, PV.cells, okc, PV.one, refsE, refsL, splice, mutD, mutbE, acc0E, memE, peqE, litE, keepE, primE, GE, pur, pur1, chunks, builtinP, appendP, elems, szOk, lenP, rd, bin, intBinE, un, sliceQ, sliceP, asNat, extE, extT, extV, entP, lookP, setP, delP, leaveP, resP, frz, frz1, packP, killed0, deferP, eqPtr, eqPtr0, eqV, eqShape, isAggP, List.replicate, natNotNeg, Int.toNat_natCast, finE, h10]
  | some l =>
    rw [hu] at h6 h7
    simp only [unP] at h6 h7
    simp [execE, opSteps, opStep, wantedP, gop, geval, get, put, putD, ofV, ofV1, kdE, tt, fillP, PV.cells, okc, PV.one, refsE, refsL, splice, mutD, mutbE, acc0E, memE, peqE, litE, keepE, primE, GE, pur, pur1, chunks, builtinP, appendP, elems, szOk, lenP, rd, bin, intBinE, un, sliceQ, sliceP, asNat, extE, extT, extV, entP, lookP, setP, delP, leaveP, resP, frz, frz1, packP, killed0, deferP, eqPtr, eqPtr0, eqV, eqShape, isAggP, List.replicate, natNotNeg, Int.toNat_natCast, finE, Tryz.f3, h6]
    simp [execE, opSteps, opStep, wantedP, gop, geval, get, put, putD, ofV, ofV1, kdE, tt, fillP, PV.cells, okc, PV.one, refsE, refsL, splice, mutD, mutbE, acc0E, memE, peqE, litE, keepE, primE, GE, pur, pur1, chunks, builtinP, appendP, elems, szOk, lenP, rd, bin, intBinE, un, sliceQ, sliceP, asNat, extE, extT, extV, entP, lookP, setP, delP, leaveP, resP, frz, frz1, packP, killed0, deferP, eqPtr, eqPtr0, eqV, eqShape, isAggP, List.replicate, natNotNeg, Int.toNat_natCast, finE, h7]
    simp [execE, opSteps, opStep, wantedP, gop, geval, get, put, putD, ofV, ofV1, kdE, tt, fillP, PV.cells, okc, PV.one, refsE, refsL, splice, mutD, mutbE, acc0E, memE, peqE, litE, keepE, primE, GE, pur, pur1, chunks, builtinP, appendP, elems, szOk, lenP, rd, bin, intBinE, un, sliceQ, sliceP, asNat, extE, extT, extV, entP, lookP, setP, delP, leaveP, resP, frz, frz1, packP, killed0, deferP, eqPtr, eqPtr0, eqV, eqShape, isAggP, List.replicate, natNotNeg, Int.toNat_natCast, finE, h8]
    simp [execE, opSteps, opStep, wantedP, gop, geval, get, put, putD, ofV, ofV1, kdE, tt, fillP, PV.cells, okc, PV.one, refsE, refsL, splice, mutD, mutbE, acc0E, memE, peqE, litE, keepE, primE, GE, pur, pur1, chunks, builtinP, appendP, elems, szOk, lenP, rd, bin, intBinE, un, sliceQ, sliceP, asNat, extE, extT, extV, entP, lookP, setP, delP, leaveP, resP, frz, frz1, packP, killed0, deferP, eqPtr, eqPtr0, eqV, eqShape, isAggP, List.replicate, natNotNeg, Int.toNat_natCast, finE, h9, eqB]
    simp [execE, opSteps, opStep, wantedP, gop, geval, get, put, putD, ofV, ofV1, kdE, tt, fillP, PV.cells, okc, PV.one, refsE, refsL, splice, mutD, mutbE, acc0E, memE, peqE, litE, keepE, primE, GE, pur, pur1, chunks, builtinP, appendP, elems, szOk, lenP, rd, bin, intBinE, un, sliceQ, sliceP, asNat, extE, extT, extV, entP, lookP, setP, delP, leaveP, resP, frz, frz1, packP, killed0, deferP, eqPtr, eqPtr0, eqV, eqShape, isAggP, List.replicate, natNotNeg, Int.toNat_natCast, finE, h10]
theorem reportHex_runs (s : ByteArray) (hs : s.size ≤ 1048576) : ∃ m', Runs E0 3 [.str s] [] (.ret (.bool true)) m' := by
  obtain ⟨⟨r, m'⟩, hx, he⟩ := Option.map_eq_some_iff.1 (f3 (s.size + 300) s hs (Nat.le_refl _))
  obtain rfl : r = .ret (.bool true) := he
  exact ⟨m', _, hx⟩
end Go.Gm
