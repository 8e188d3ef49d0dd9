/- Base 16 read back: both texts agree. -/
import Derived.Test.YtnfbfcheipjonaaGreatDoorGmUnhex6
set_option maxRecDepth 100000
set_option linter.unusedSimpArgs false
namespace Go.Gm
open Go.Proofs
theorem srch_miss (a c : UInt8) : ∀ j b, (∀ u, b ≤ u → u < b + j → ¬ (hx (u / 16) = a ∧ hx (u % 16) = c)) → srch a c j b = b + j
  | 0, b, _ => rfl
  | j + 1, b, h => by
    unfold srch
    rw [if_neg (h b (by omega) (by omega)), srch_miss a c j (b + 1) (fun u h1 h2 => h u (by omega) (by omega))]
    omega
theorem srch_hit (a c : UInt8) (t : Nat) (ht : hx (t / 16) = a ∧ hx (t % 16) = c) : ∀ j b, b ≤ t → t < b + j → (∀ u, b ≤ u → u < t → ¬ (hx (u / 16) = a ∧ hx (u % 16) = c)) → srch a c j b = t
  | 0, b, h0, h1, _ => by omega
  | j + 1, b, h0, h1, h => by
    unfold srch
    by_cases e : b = t
    · subst e; rw [if_pos ht]
    · rw [if_neg (h b (by omega) (by omega)), srch_hit a c t ht j (b + 1) (by omega) (by omega) (fun u h2 h3 => h u (by omega) h3)]
theorem srch_eq (a c : UInt8) : (idx a = -1 ∨ idx c = -1) ∧ srch a c 256 0 = 256 ∨ ∃ p q : Nat, p < 16 ∧ q < 16 ∧ idx a = (p : Int) ∧ idx c = (q : Int) ∧ srch a c 256 0 = 16 * p + q := by
  rcases idx_cases a with ⟨ha, h⟩ | ⟨p, hp, ha, ha'⟩
  · exact Or.inl ⟨Or.inl ha, srch_miss a c 256 0 fun u _ hu hh => h _ (by omega) hh.1⟩
  · rcases idx_cases c with ⟨hc, h⟩ | ⟨q, hq, hc, hc'⟩
    · exact Or.inl ⟨Or.inr hc, srch_miss a c 256 0 fun u _ hu hh => h _ (by omega) hh.2⟩
    · refine Or.inr ⟨p, q, hp, hq, ha, hc, srch_hit a c (16 * p + q) ⟨?_, ?_⟩ 256 0 (by omega) (by omega) fun u _ hu hh => ?_⟩
      · rw [show (16 * p + q) / 16 = p by omega]; exact ha'
      · rw [show (16 * p + q) % 16 = q by omega]; exact hc'
      · have e1 := idx_hx (u / 16) (by omega)
        have e2 := idx_hx (u % 16) (by omega)
        rw [hh.1, ha] at e1
        rw [hh.2, hc] at e2
        omega
theorem uP_eq : ∀ (n : Nat) (x : List UInt8), x.length ≤ n → uP x = unR x
  | 0, [], _ => rfl
  | n + 1, [], _ => rfl
  | n + 1, [_], _ => rfl
  | n + 1, a :: c :: r, h => by
    rw [uP, unR, uP_eq n r (by simp at h; omega)]
    rcases srch_eq a c with ⟨h1, h2⟩ | ⟨p, q, hp, hq, h1, h2, h3⟩
    · rw [if_pos h1, if_pos h2]
    · rw [if_neg (by rw [h1, h2]; omega), if_neg (by omega), h1, h2, h3]
      simp
theorem f6 (k : Nat) (s : ByteArray) (hs : s.size ≤ maxB) (hk : s.size + 10 ≤ k) : (run E0 k 6 [.str s] []).map Prod.fst = some (.ret (unP (unRes s))) := by
  obtain ⟨k, rfl⟩ : ∃ m, k = m + 4 + 1 := ⟨k - 5, by omega⟩
  have hm2 := mod2 s.size
  rw [runS (primE _) (fn_of Tryz.func6) rfl]
  by_cases ho : s.size % 2 = 1
  · rw [ho] at hm2
    have hr : unRes s = none := by rw [unRes, if_pos ho]
    rw [hr]
    simp [execE, opSteps, opStep, wantedP, gop, geval, get, put, putD, ofV, ofV1, kdE, tt, fillP, PV.cells, okc, PV.one, refsE, refsL, splice, mutD, mutbE, acc0E, memE, peqE, litE, keepE, primE, GE, pur, pur1, chunks, builtinP, appendP, elems, szOk, lenP, rd, bin, intBinE, un, sliceQ, sliceP, asNat, extE, extT, extV, entP, lookP, setP, delP, leaveP, resP, frz, frz1, packP, killed0, deferP, eqPtr, eqPtr0, eqV, eqShape, isAggP, List.replicate, natNotNeg, Int.toNat_natCast, finE, Tryz.f6, hm2, unP]
  · have h0 : s.size % 2 = 0 := by omega
    rw [h0] at hm2
    have hr : unRes s = uP s.data.toList := by rw [unRes, if_neg ho, uP_eq _ _ (Nat.le_refl _)]
    rw [hr]
    have hB : BB [] = [Blk.var ⟨37, true⟩ [.nilp, .nils]] := rfl
    rcases un6Loop k s hs (s.size / 2) 0 [] (by omega) (by simp) (k + 4) (by omega) .dead .dead (.str s) (.int .i64 s.size) (.int .i64 0) (.bool false) .dead .dead .dead .dead .dead .dead .dead .dead .dead .dead .dead .dead .dead .dead .dead .dead .dead .dead .dead .dead .dead .dead .dead .dead .dead .dead .dead with ⟨l, hl, g6', g7', g8', g9', g10', g11', g12', g13', g14', g15', g16', g17', g18', g19', g20', g21', g22', g23', g24', g25', g26', g27', g28', g29', g30', g31', g32', g33', g34', g35', g36', g37', g38', h⟩ | ⟨hl, es', i', g6', g7', g8', g9', g10', g11', g12', g13', g14', g15', g16', g17', g18', g19', g20', g21', g22', g23', g24', g25', g26', g27', g28', g29', g30', g31', g32', g33', g34', g35', g36', g37', g38', h⟩
    · simp only [List.nil_append, List.drop_zero] at h hl
      have hlen : l.length ≤ maxB := Nat.le_trans (unR_len _ _ _ (Nat.le_refl _) (by rw [← uP_eq _ _ (Nat.le_refl _)]; exact hl)) (by simpa using hs)
      have h17 := c17 (k + 2) l hlen
      rw [← execLoop] at h
      simp only [un6, loops, Tryz.f6, Option.getD_some, List.nil_append, List.append_nil, List.getD_cons_zero, List.cons_append, List.getD_cons_succ] at h
      rw [hB] at h
      rw [hl]
      simp at h
      simp [execE, opSteps, opStep, wantedP, gop, geval, get, put, putD, ofV, ofV1, kdE, tt, fillP, PV.cells, okc, PV.one, refsE, refsL, splice, mutD, mutbE, acc0E, memE, peqE, litE, keepE, primE, GE, pur, pur1, chunks, builtinP, appendP, elems, szOk, lenP, rd, bin, intBinE, un, sliceQ, sliceP, asNat, extE, extT, extV, entP, lookP, setP, delP, leaveP, resP, frz, frz1, packP, killed0, deferP, eqPtr, eqPtr0, eqV, eqShape, isAggP, List.replicate, natNotNeg, Int.toNat_natCast, finE, Tryz.f6, hm2]
      simp [execE, opSteps, opStep, wantedP, gop, geval, get, put, putD, ofV, ofV1, kdE, tt, fillP, PV.cells, okc, PV.one, refsE, refsL, splice, mutD, mutbE, acc0E, memE, peqE, litE, keepE, primE, GE, pur, pur1, chunks, builtinP, appendP, elems, szOk, lenP, rd, bin, intBinE, un, sliceQ, sliceP, asNat, extE, extT, extV, entP, lookP, setP, delP, leaveP, resP, frz, frz1, packP, killed0, deferP, eqPtr, eqPtr0, eqV, eqShape, isAggP, List.replicate, natNotNeg, Int.toNat_natCast, finE, h, h17, unP]
    · simp only [List.nil_append, List.drop_zero] at h hl
      rw [← execLoop] at h
      simp only [un6, loops, Tryz.f6, Option.getD_some, List.nil_append, List.append_nil, List.getD_cons_zero, List.cons_append, List.getD_cons_succ] at h
      rw [hB] at h
      rw [hl]
      simp at h
      simp [execE, opSteps, opStep, wantedP, gop, geval, get, put, putD, ofV, ofV1, kdE, tt, fillP, PV.cells, okc, PV.one, refsE, refsL, splice, mutD, mutbE, acc0E, memE, peqE, litE, keepE, primE, GE, pur, pur1, chunks, builtinP, appendP, elems, szOk, lenP, rd, bin, intBinE, un, sliceQ, sliceP, asNat, extE, extT, extV, entP, lookP, setP, delP, leaveP, resP, frz, frz1, packP, killed0, deferP, eqPtr, eqPtr0, eqV, eqShape, isAggP, List.replicate, natNotNeg, Int.toNat_natCast, finE, Tryz.f6, hm2]
      simp [execE, opSteps, opStep, wantedP, gop, geval, get, put, putD, ofV, ofV1, kdE, tt, fillP, PV.cells, okc, PV.one, refsE, refsL, splice, mutD, mutbE, acc0E, memE, peqE, litE, keepE, primE, GE, pur, pur1, chunks, builtinP, appendP, elems, szOk, lenP, rd, bin, intBinE, un, sliceQ, sliceP, asNat, extE, extT, extV, entP, lookP, setP, delP, leaveP, resP, frz, frz1, packP, killed0, deferP, eqPtr, eqPtr0, eqV, eqShape, isAggP, List.replicate, natNotNeg, Int.toNat_natCast, finE, h, unP]
theorem c6 (k : Nat) (s : ByteArray) (m : Mem) (hs : s.size ≤ maxB) (hk : s.size + 10 ≤ k) : callN E0 k 6 [.str s] m = some (.ret (unP (unRes s)), m) :=
  callN_pure (f6 k s hs hk) rfl (by cases unRes s <;> rfl)
end Go.Gm
