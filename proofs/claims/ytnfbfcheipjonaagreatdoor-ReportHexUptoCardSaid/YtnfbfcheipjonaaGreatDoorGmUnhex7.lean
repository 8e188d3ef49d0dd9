/- Base 16, read back by the reference: what the function hands back. -/
import Derived.Test.YtnfbfcheipjonaaGreatDoorGmUnhexRef
set_option maxRecDepth 100000
set_option linter.unusedSimpArgs false
namespace Go.Gm
open Go.Proofs
def unP : Option (List UInt8) → PV
  | none => .tup [.str ⟨#[]⟩, .bool false]
  | some l => .tup [.str ⟨l.toArray⟩, .bool true]
def unRes (s : ByteArray) : Option (List UInt8) := if s.size % 2 = 1 then none else unR s.data.toList
theorem unR_len : ∀ (n : Nat) (x l : List UInt8), x.length ≤ n → unR x = some l → l.length ≤ x.length
  | 0, [], l, _, h => by simp [unR] at h; subst h; simp
  | n + 1, [], l, _, h => by simp [unR] at h; subst h; simp
  | n + 1, [_], l, _, h => by simp [unR] at h; subst h; simp
  | n + 1, a :: c :: r, l, hn, h => by
    unfold unR at h
    split at h
    · simp at h
    · obtain ⟨l', h1, rfl⟩ := Option.map_eq_some_iff.1 h
      have := unR_len n r l' (by simp at hn; omega) h1
      simp; omega
theorem mod2 (n : Nat) : ((n : Int).tmod 2) = ((n % 2 : Nat) : Int) := by rw [Int.tmod_eq_emod_of_nonneg (by omega)]; omega
theorem f7 (k : Nat) (s : ByteArray) (hs : s.size ≤ maxB) (hk : s.size + 300 ≤ k) : (run E0 k 7 [.str s] []).map Prod.fst = some (.ret (unP (unRes s))) := by
  obtain ⟨k, rfl⟩ : ∃ m, k = m + 2 + 1 := ⟨k - 3, by omega⟩
  have hm2 := mod2 s.size
  rcases outLoop k s hs (by omega) (s.size + 1) 0 [] (by omega) (by omega) (by simp) (k + 2) (by omega) .dead .dead .dead .dead .dead .dead .dead .dead .dead .dead .dead .dead .dead .dead .dead .dead .dead .dead .dead .dead .dead .dead .dead .dead .dead .dead .dead .dead .dead .dead .dead .dead .dead .dead .dead .dead .dead .dead with ⟨l, i', hl, g6', g7', g8', g9', g10', g11', g12', g13', g14', g15', g16', g17', g18', g19', g20', g21', g22', g23', g24', g25', g26', g27', g28', g29', g30', g31', g32', g33', g34', g35', g36', g37', g38', g39', g40', g41', g42', g43', h⟩ | ⟨hl, es', i', g6', g7', g8', g9', g10', g11', g12', g13', g14', g15', g16', g17', g18', g19', g20', g21', g22', g23', g24', g25', g26', g27', g28', g29', g30', g31', g32', g33', g34', g35', g36', g37', g38', g39', g40', g41', g42', g43', h⟩
  · simp only [List.nil_append, List.drop_zero] at h hl
    rw [← execLoop] at h
    simp only [unOut, loops, Tryz.f7, Option.getD_some, List.nil_append, List.append_nil, List.getD_cons_zero, List.cons_append, List.getD_cons_succ] at h
    rw [runS (primE _) (fn_of Tryz.func7) rfl]
    by_cases ho : s.size % 2 = 1
    · rw [ho] at hm2
      have hr : unRes s = none := by rw [unRes, if_pos ho]
      rw [hr]
      simp [sv, sm] at h
      simp [execE, opSteps, opStep, wantedP, gop, geval, get, put, putD, ofV, ofV1, kdE, tt, fillP, PV.cells, okc, PV.one, refsE, refsL, splice, mutD, mutbE, acc0E, memE, peqE, litE, keepE, primE, GE, pur, pur1, chunks, builtinP, appendP, elems, szOk, lenP, rd, bin, intBinE, un, sliceQ, sliceP, asNat, extE, extT, extV, entP, lookP, setP, delP, leaveP, resP, frz, frz1, packP, killed0, deferP, eqPtr, eqPtr0, eqV, eqShape, isAggP, List.replicate, natNotNeg, Int.toNat_natCast, finE, Tryz.f7, sv, sm, h, hm2, unP]
    · have h0 : s.size % 2 = 0 := by omega
      rw [h0] at hm2
      have hr : unRes s = some l := by rw [unRes, if_neg ho, hl]
      rw [hr]
      have hb := bytesP_map l
      have hm : l.length ≤ maxB := Nat.le_trans (unR_len _ _ _ (Nat.le_refl _) hl) (by simpa using hs)
      cases l with
      | nil =>
        simp [sv, sm] at h
        simp [execE, opSteps, opStep, wantedP, gop, geval, get, put, putD, ofV, ofV1, kdE, tt, fillP, PV.cells, okc, PV.one, refsE, refsL, splice, mutD, mutbE, acc0E, memE, peqE, litE, keepE, primE, GE, pur, pur1, chunks, builtinP, appendP, elems, szOk, lenP, rd, bin, intBinE, un, sliceQ, sliceP, asNat, extE, extT, extV, entP, lookP, setP, delP, leaveP, resP, frz, frz1, packP, killed0, deferP, eqPtr, eqPtr0, eqV, eqShape, isAggP, List.replicate, natNotNeg, Int.toNat_natCast, finE, conv35, isStrP, bytesP, Tryz.f7, sv, sm, h, hm2, unP]
      | cons b l =>
        have ht : List.take l.length (List.map byteP l) = List.map byteP l := List.take_of_length_le (by simp)
        simp [sv, sm] at h hb hm
        simp [execE, opSteps, opStep, wantedP, gop, geval, get, put, putD, ofV, ofV1, kdE, tt, fillP, PV.cells, okc, PV.one, refsE, refsL, splice, mutD, mutbE, acc0E, memE, peqE, litE, keepE, primE, GE, pur, pur1, chunks, builtinP, appendP, elems, szOk, lenP, rd, bin, intBinE, un, sliceQ, sliceP, asNat, extE, extT, extV, entP, lookP, setP, delP, leaveP, resP, frz, frz1, packP, killed0, deferP, eqPtr, eqPtr0, eqV, eqShape, isAggP, List.replicate, natNotNeg, Int.toNat_natCast, finE, conv35, isStrP, Tryz.f7, sv, sm, h, hm2, hb, hm, ht, unP]
  · simp only [List.nil_append, List.drop_zero] at h hl
    rw [← execLoop] at h
    simp only [unOut, loops, Tryz.f7, Option.getD_some, List.nil_append, List.append_nil, List.getD_cons_zero, List.cons_append, List.getD_cons_succ] at h
    rw [runS (primE _) (fn_of Tryz.func7) rfl]
    have hr : unRes s = none := by rw [unRes, hl]; split <;> rfl
    rw [hr]
    simp [sv, sm] at h
    simp [execE, opSteps, opStep, wantedP, gop, geval, get, put, putD, ofV, ofV1, kdE, tt, fillP, PV.cells, okc, PV.one, refsE, refsL, splice, mutD, mutbE, acc0E, memE, peqE, litE, keepE, primE, GE, pur, pur1, chunks, builtinP, appendP, elems, szOk, lenP, rd, bin, intBinE, un, sliceQ, sliceP, asNat, extE, extT, extV, entP, lookP, setP, delP, leaveP, resP, frz, frz1, packP, killed0, deferP, eqPtr, eqPtr0, eqV, eqShape, isAggP, List.replicate, natNotNeg, Int.toNat_natCast, finE, Tryz.f7, h, unP]
theorem c7 (k : Nat) (s : ByteArray) (m : Mem) (hs : s.size ≤ maxB) (hk : s.size + 300 ≤ k) : callN E0 k 7 [.str s] m = some (.ret (unP (unRes s)), m) :=
  callN_pure (f7 k s hs hk) rfl (by cases unRes s <;> rfl)
end Go.Gm
