/- Base 16, read back by the reference: the whole function. -/
import Derived.Test.YtnfbfcheipjonaaGreatDoorGmUnhex
set_option maxRecDepth 100000
set_option linter.unusedSimpArgs false
namespace Go.Gm
open Go.Proofs

theorem eq256 (b : Nat) : (((b : Int) == 256) = decide (b = 256)) := by
  by_cases h : b = 256
  · subst h; rfl
  · simp only [h, decide_false]; rw [beq_eq_false_iff_ne]; omega
theorem outGood (k : Nat) (s : ByteArray) (i : Nat) (hi : i + 1 < s.size) (hs : s.size ≤ 140737488355328) (es : List (List PV)) (hes : es.length + 1 ≤ maxB) (hk : 257 ≤ k + 2) (b : Nat) (hb : b = srch s[i] s[i + 1] 256 0) (hb' : b < 256) (g6 g7 g8 g9 g10 g11 g12 g13 g14 g15 g16 g17 g18 g19 g20 g21 g22 g23 g24 g25 g26 g27 g28 g29 g30 g31 g32 g33 g34 g35 g36 g37 g38 g39 g40 g41 g42 g43 : PV) :
    ∃ g6' g7' g8' g9' g10' g11' g12' g13' g14' g15' g16' g17' g18' g19' g20' g21' g22' g23' g24' g25' g26' g27' g28' g29' g30' g31' g32' g33' g34' g35' g36' g37' g38' g39' g40' g41' g42' g43', exec E0 (callN E0 (k + 2)) (drawE E0 (callN E0 (k + 2))) (k + 2) 7 unOut ⟨[.str s, .dead, .str ⟨#[]⟩, .bool false, sv es, .int .i64 i, g6, g7, g8, g9, g10, g11, g12, g13, g14, g15, g16, g17, g18, g19, g20, g21, g22, g23, g24, g25, g26, g27, g28, g29, g30, g31, g32, g33, g34, g35, g36, g37, g38, g39, g40, g41, g42, g43, .dead, .dead, .dead, .dead, .dead, .dead], sm es, []⟩ =
      some (.norm, ⟨[.str s, .dead, .str ⟨#[]⟩, .bool false, sv (es ++ [[.int .u8 b]]), .int .i64 (i + 2 : Nat), g6', g7', g8', g9', g10', g11', g12', g13', g14', g15', g16', g17', g18', g19', g20', g21', g22', g23', g24', g25', g26', g27', g28', g29', g30', g31', g32', g33', g34', g35', g36', g37', g38', g39', g40', g41', g42', g43', .dead, .dead, .dead, .dead, .dead, .dead], sm (es ++ [[.int .u8 b]]), []⟩) := by
  have w1 : IntKind.i64.wrap ((i : Int) + 1) = (i : Int) + 1 := wrap_i64 (by omega) (by omega)
  have w3 : IntKind.i64.wrap ((i : Int) + 2) = (i : Int) + 2 := wrap_i64 (by omega) (by omega)
  have w4 : IntKind.u8.wrap (b : Int) = b := IntWalk.u8_in _ (by omega)
  have hne : b ≠ 256 := by omega
  have hl : ((i : Int) + 1 < s.size) := by omega
  obtain ⟨g7', g8', g9', g10', g11', g12', g13', g14', g15', g16', g17', g18', g19', g20', g21', g22', g23', g24', g25', g26', g27', g28', g29', g30', g31', g32', g33', g34', g35', g36', g37', g38', g39', g40', g41', g42', g43', h⟩ := inLoop k s i hi hs es (sm es) 256 0 rfl (k + 2) hk (.int .i64 i) (.int .i64 (i + 1 : Int)) (.str s) (.int .i64 s.size) (.bool true) g12 g13 g14 g15 g16 g17 g18 g19 g20 g21 g22 g23 g24 g25 g26 g27 g28 g29 g30 g31 g32 g33 g34 g35 g36 g37 g38 g39 g40 g41 g42 g43
  rw [← execLoop, ← hb] at h
  simp only [unIn, loops, Tryz.f7, Option.getD_some, List.nil_append, List.append_nil, List.getD_cons_zero, List.cons_append, List.getD_cons_succ] at h
  simp only [unOut, loops, Tryz.f7, Option.getD_some, List.nil_append, List.append_nil, List.getD_cons_zero, List.cons_append, List.getD_cons_succ]
  cases es with
  | nil =>
    have b1 : 1 ≤ maxB := by decide
    simp [sv, sm] at h
    simp [execE, opSteps, opStep, wantedP, gop, geval, get, put, putD, ofV, ofV1, kdE, tt, fillP, PV.cells, okc, PV.one, refsE, refsL, splice, mutD, mutbE, acc0E, memE, peqE, litE, keepE, primE, GE, pur, pur1, chunks, builtinP, appendP, elems, szOk, lenP, rd, bin, intBinE, un, sliceQ, sliceP, asNat, extE, extT, extV, entP, lookP, setP, delP, leaveP, resP, frz, frz1, packP, killed0, deferP, eqPtr, eqPtr0, eqV, eqShape, isAggP, List.replicate, natNotNeg, Int.toNat_natCast, finE, h, w1, w3, w4, hl, hne, eq256, sv, sm, b1]
  | cons e es =>
    have b1 : es.length + 1 + 1 ≤ maxB := by simpa using hes
    simp [sv, sm] at h
    simp [execE, opSteps, opStep, wantedP, gop, geval, get, put, putD, ofV, ofV1, kdE, tt, fillP, PV.cells, okc, PV.one, refsE, refsL, splice, mutD, mutbE, acc0E, memE, peqE, litE, keepE, primE, GE, pur, pur1, chunks, builtinP, appendP, elems, szOk, lenP, rd, bin, intBinE, un, sliceQ, sliceP, asNat, extE, extT, extV, entP, lookP, setP, delP, leaveP, resP, frz, frz1, packP, killed0, deferP, eqPtr, eqPtr0, eqV, eqShape, isAggP, List.replicate, natNotNeg, Int.toNat_natCast, finE, h, w1, w3, w4, hl, hne, eq256, sv, sm, b1]
theorem outBad (k : Nat) (s : ByteArray) (i : Nat) (hi : i + 1 < s.size) (hs : s.size ≤ 140737488355328) (es : List (List PV)) (hk : 257 ≤ k + 2) (hb : srch s[i] s[i + 1] 256 0 = 256) (g6 g7 g8 g9 g10 g11 g12 g13 g14 g15 g16 g17 g18 g19 g20 g21 g22 g23 g24 g25 g26 g27 g28 g29 g30 g31 g32 g33 g34 g35 g36 g37 g38 g39 g40 g41 g42 g43 : PV) :
    ∃ g6' g7' g8' g9' g10' g11' g12' g13' g14' g15' g16' g17' g18' g19' g20' g21' g22' g23' g24' g25' g26' g27' g28' g29' g30' g31' g32' g33' g34' g35' g36' g37' g38' g39' g40' g41' g42' g43', exec E0 (callN E0 (k + 2)) (drawE E0 (callN E0 (k + 2))) (k + 2) 7 unOut ⟨[.str s, .dead, .str ⟨#[]⟩, .bool false, sv es, .int .i64 i, g6, g7, g8, g9, g10, g11, g12, g13, g14, g15, g16, g17, g18, g19, g20, g21, g22, g23, g24, g25, g26, g27, g28, g29, g30, g31, g32, g33, g34, g35, g36, g37, g38, g39, g40, g41, g42, g43, .dead, .dead, .dead, .dead, .dead, .dead], sm es, []⟩ =
      some (.ret, ⟨[.str s, .dead, .str ⟨#[]⟩, .bool false, sv es, .int .i64 i, g6', g7', g8', g9', g10', g11', g12', g13', g14', g15', g16', g17', g18', g19', g20', g21', g22', g23', g24', g25', g26', g27', g28', g29', g30', g31', g32', g33', g34', g35', g36', g37', g38', g39', g40', g41', g42', g43', .dead, .dead, .dead, .dead, .dead, .dead], sm es, []⟩) := by
  have w1 : IntKind.i64.wrap ((i : Int) + 1) = (i : Int) + 1 := wrap_i64 (by omega) (by omega)
  have hl : ((i : Int) + 1 < s.size) := by omega
  obtain ⟨g7', g8', g9', g10', g11', g12', g13', g14', g15', g16', g17', g18', g19', g20', g21', g22', g23', g24', g25', g26', g27', g28', g29', g30', g31', g32', g33', g34', g35', g36', g37', g38', g39', g40', g41', g42', g43', h⟩ := inLoop k s i hi hs es (sm es) 256 0 rfl (k + 2) hk (.int .i64 i) (.int .i64 (i + 1 : Int)) (.str s) (.int .i64 s.size) (.bool true) g12 g13 g14 g15 g16 g17 g18 g19 g20 g21 g22 g23 g24 g25 g26 g27 g28 g29 g30 g31 g32 g33 g34 g35 g36 g37 g38 g39 g40 g41 g42 g43
  rw [← execLoop, hb] at h
  simp only [unIn, loops, Tryz.f7, Option.getD_some, List.nil_append, List.append_nil, List.getD_cons_zero, List.cons_append, List.getD_cons_succ] at h
  simp only [unOut, loops, Tryz.f7, Option.getD_some, List.nil_append, List.append_nil, List.getD_cons_zero, List.cons_append, List.getD_cons_succ]
  simp at h
  simp [execE, opSteps, opStep, wantedP, gop, geval, get, put, putD, ofV, ofV1, kdE, tt, fillP, PV.cells, okc, PV.one, refsE, refsL, splice, mutD, mutbE, acc0E, memE, peqE, litE, keepE, primE, GE, pur, pur1, chunks, builtinP, appendP, elems, szOk, lenP, rd, bin, intBinE, un, sliceQ, sliceP, asNat, extE, extT, extV, entP, lookP, setP, delP, leaveP, resP, frz, frz1, packP, killed0, deferP, eqPtr, eqPtr0, eqV, eqShape, isAggP, List.replicate, natNotNeg, Int.toNat_natCast, finE, h, w1, hl]
theorem outDone (k : Nat) (s : ByteArray) (i : Nat) (hi : ¬ i + 1 < s.size) (hi' : i ≤ s.size) (hs : s.size ≤ 140737488355328) (es : List (List PV)) (g6 g7 g8 g9 g10 g11 g12 g13 g14 g15 g16 g17 g18 g19 g20 g21 g22 g23 g24 g25 g26 g27 g28 g29 g30 g31 g32 g33 g34 g35 g36 g37 g38 g39 g40 g41 g42 g43 : PV) :
    ∃ g6' g7' g8' g9' g10' g11' g12' g13' g14' g15' g16' g17' g18' g19' g20' g21' g22' g23' g24' g25' g26' g27' g28' g29' g30' g31' g32' g33' g34' g35' g36' g37' g38' g39' g40' g41' g42' g43', exec E0 (callN E0 (k + 2)) (drawE E0 (callN E0 (k + 2))) (k + 2) 7 unOut ⟨[.str s, .dead, .str ⟨#[]⟩, .bool false, sv es, .int .i64 i, g6, g7, g8, g9, g10, g11, g12, g13, g14, g15, g16, g17, g18, g19, g20, g21, g22, g23, g24, g25, g26, g27, g28, g29, g30, g31, g32, g33, g34, g35, g36, g37, g38, g39, g40, g41, g42, g43, .dead, .dead, .dead, .dead, .dead, .dead], sm es, []⟩ =
      some (.exit 0, ⟨[.str s, .dead, .str ⟨#[]⟩, .bool false, sv es, .int .i64 i, g6', g7', g8', g9', g10', g11', g12', g13', g14', g15', g16', g17', g18', g19', g20', g21', g22', g23', g24', g25', g26', g27', g28', g29', g30', g31', g32', g33', g34', g35', g36', g37', g38', g39', g40', g41', g42', g43', .dead, .dead, .dead, .dead, .dead, .dead], sm es, []⟩) := by
  have w1 : IntKind.i64.wrap ((i : Int) + 1) = (i : Int) + 1 := wrap_i64 (by omega) (by omega)
  have hl : ¬ ((i : Int) + 1 < s.size) := by omega
  simp only [unOut, loops, Tryz.f7, Option.getD_some, List.nil_append, List.append_nil, List.getD_cons_zero, List.cons_append, List.getD_cons_succ]
  simp [execE, opSteps, opStep, wantedP, gop, geval, get, put, putD, ofV, ofV1, kdE, tt, fillP, PV.cells, okc, PV.one, refsE, refsL, splice, mutD, mutbE, acc0E, memE, peqE, litE, keepE, primE, GE, pur, pur1, chunks, builtinP, appendP, elems, szOk, lenP, rd, bin, intBinE, un, sliceQ, sliceP, asNat, extE, extT, extV, entP, lookP, setP, delP, leaveP, resP, frz, frz1, packP, killed0, deferP, eqPtr, eqPtr0, eqV, eqShape, isAggP, List.replicate, natNotNeg, Int.toNat_natCast, finE, w1, hl]
def unR : List UInt8 → Option (List UInt8)
  | a :: c :: r => if srch a c 256 0 = 256 then none else (unR r).map (UInt8.ofNat (srch a c 256 0) :: ·)
  | _ => some []
theorem drop2 (s : ByteArray) (i : Nat) (hi : i + 1 < s.size) : s.data.toList.drop i = s[i] :: s[i + 1] :: s.data.toList.drop (i + 2) := by
  rw [List.drop_eq_getElem_cons (by simp; exact (by omega : i < s.size)), List.drop_eq_getElem_cons (i := i + 1) (by simpa using hi)]
  rfl
theorem outLoop (k : Nat) (s : ByteArray) (hs : s.size ≤ maxB) (hk : 257 ≤ k + 2) : ∀ (j i : Nat) (es : List (List PV)), i ≤ s.size → s.size < i + 2 * j → es.length ≤ i → ∀ n, j ≤ n → ∀ (g6 g7 g8 g9 g10 g11 g12 g13 g14 g15 g16 g17 g18 g19 g20 g21 g22 g23 g24 g25 g26 g27 g28 g29 g30 g31 g32 g33 g34 g35 g36 g37 g38 g39 g40 g41 g42 g43 : PV),
    (∃ l i', unR (s.data.toList.drop i) = some l ∧ ∃ g6' g7' g8' g9' g10' g11' g12' g13' g14' g15' g16' g17' g18' g19' g20' g21' g22' g23' g24' g25' g26' g27' g28' g29' g30' g31' g32' g33' g34' g35' g36' g37' g38' g39' g40' g41' g42' g43', iter (exec E0 (callN E0 (k + 2)) (drawE E0 (callN E0 (k + 2))) (k + 2) 7 unOut) n ⟨[.str s, .dead, .str ⟨#[]⟩, .bool false, sv es, .int .i64 i, g6, g7, g8, g9, g10, g11, g12, g13, g14, g15, g16, g17, g18, g19, g20, g21, g22, g23, g24, g25, g26, g27, g28, g29, g30, g31, g32, g33, g34, g35, g36, g37, g38, g39, g40, g41, g42, g43, .dead, .dead, .dead, .dead, .dead, .dead], sm es, []⟩ =
      some (.exit 0, ⟨[.str s, .dead, .str ⟨#[]⟩, .bool false, sv (es ++ l.map byteP), i', g6', g7', g8', g9', g10', g11', g12', g13', g14', g15', g16', g17', g18', g19', g20', g21', g22', g23', g24', g25', g26', g27', g28', g29', g30', g31', g32', g33', g34', g35', g36', g37', g38', g39', g40', g41', g42', g43', .dead, .dead, .dead, .dead, .dead, .dead], sm (es ++ l.map byteP), []⟩)) ∨
    (unR (s.data.toList.drop i) = none ∧ ∃ es' i', ∃ g6' g7' g8' g9' g10' g11' g12' g13' g14' g15' g16' g17' g18' g19' g20' g21' g22' g23' g24' g25' g26' g27' g28' g29' g30' g31' g32' g33' g34' g35' g36' g37' g38' g39' g40' g41' g42' g43', iter (exec E0 (callN E0 (k + 2)) (drawE E0 (callN E0 (k + 2))) (k + 2) 7 unOut) n ⟨[.str s, .dead, .str ⟨#[]⟩, .bool false, sv es, .int .i64 i, g6, g7, g8, g9, g10, g11, g12, g13, g14, g15, g16, g17, g18, g19, g20, g21, g22, g23, g24, g25, g26, g27, g28, g29, g30, g31, g32, g33, g34, g35, g36, g37, g38, g39, g40, g41, g42, g43, .dead, .dead, .dead, .dead, .dead, .dead], sm es, []⟩ =
      some (.ret, ⟨[.str s, .dead, .str ⟨#[]⟩, .bool false, sv es', i', g6', g7', g8', g9', g10', g11', g12', g13', g14', g15', g16', g17', g18', g19', g20', g21', g22', g23', g24', g25', g26', g27', g28', g29', g30', g31', g32', g33', g34', g35', g36', g37', g38', g39', g40', g41', g42', g43', .dead, .dead, .dead, .dead, .dead, .dead], sm es', []⟩))
  | 0, i, es, hi, hj, hl, n, hn, g6, g7, g8, g9, g10, g11, g12, g13, g14, g15, g16, g17, g18, g19, g20, g21, g22, g23, g24, g25, g26, g27, g28, g29, g30, g31, g32, g33, g34, g35, g36, g37, g38, g39, g40, g41, g42, g43 => by omega
  | j + 1, i, es, hi, hj, hl, n, hn, g6, g7, g8, g9, g10, g11, g12, g13, g14, g15, g16, g17, g18, g19, g20, g21, g22, g23, g24, g25, g26, g27, g28, g29, g30, g31, g32, g33, g34, g35, g36, g37, g38, g39, g40, g41, g42, g43 => by
    obtain ⟨n, rfl⟩ : ∃ m, n = m + 1 := ⟨n - 1, by omega⟩
    have hs' : s.size ≤ 140737488355328 := hs
    by_cases hi' : i + 1 < s.size
    · rw [drop2 s i hi', unR]
      have hle := srch_le s[i] s[i + 1] 256 0
      by_cases hb : srch s[i] s[i + 1] 256 0 = 256
      · obtain ⟨g6', g7', g8', g9', g10', g11', g12', g13', g14', g15', g16', g17', g18', g19', g20', g21', g22', g23', g24', g25', g26', g27', g28', g29', g30', g31', g32', g33', g34', g35', g36', g37', g38', g39', g40', g41', g42', g43', h⟩ := outBad k s i hi' hs' es hk hb g6 g7 g8 g9 g10 g11 g12 g13 g14 g15 g16 g17 g18 g19 g20 g21 g22 g23 g24 g25 g26 g27 g28 g29 g30 g31 g32 g33 g34 g35 g36 g37 g38 g39 g40 g41 g42 g43
        refine Or.inr ⟨by rw [if_pos hb], es, .int .i64 i, g6', g7', g8', g9', g10', g11', g12', g13', g14', g15', g16', g17', g18', g19', g20', g21', g22', g23', g24', g25', g26', g27', g28', g29', g30', g31', g32', g33', g34', g35', g36', g37', g38', g39', g40', g41', g42', g43', ?_⟩
        rw [iter, h]
      · obtain ⟨g6', g7', g8', g9', g10', g11', g12', g13', g14', g15', g16', g17', g18', g19', g20', g21', g22', g23', g24', g25', g26', g27', g28', g29', g30', g31', g32', g33', g34', g35', g36', g37', g38', g39', g40', g41', g42', g43', h⟩ := outGood k s i hi' hs' es (by unfold maxB at *; omega) hk _ rfl (by omega) g6 g7 g8 g9 g10 g11 g12 g13 g14 g15 g16 g17 g18 g19 g20 g21 g22 g23 g24 g25 g26 g27 g28 g29 g30 g31 g32 g33 g34 g35 g36 g37 g38 g39 g40 g41 g42 g43
        rw [iter, h, if_neg hb]
        have hby : [[PV.int .u8 ((srch s[i] s[i + 1] 256 0 : Nat) : Int)]] = [UInt8.ofNat (srch s[i] s[i + 1] 256 0)].map byteP := by
          have : (UInt8.ofNat (srch s[i] s[i + 1] 256 0)).toNat = srch s[i] s[i + 1] 256 0 := by
            rw [UInt8.toNat_ofNat']; exact Nat.mod_eq_of_lt (by omega)
          simp [byteP, this]
        rcases outLoop k s hs hk j (i + 2) (es ++ [[PV.int .u8 ((srch s[i] s[i + 1] 256 0 : Nat) : Int)]]) (by omega) (by omega) (by simp; omega) n (by omega) g6' g7' g8' g9' g10' g11' g12' g13' g14' g15' g16' g17' g18' g19' g20' g21' g22' g23' g24' g25' g26' g27' g28' g29' g30' g31' g32' g33' g34' g35' g36' g37' g38' g39' g40' g41' g42' g43' with ⟨l, i', hl, h6', h7', h8', h9', h10', h11', h12', h13', h14', h15', h16', h17', h18', h19', h20', h21', h22', h23', h24', h25', h26', h27', h28', h29', h30', h31', h32', h33', h34', h35', h36', h37', h38', h39', h40', h41', h42', h43', h'⟩ | ⟨hl, es', i', h6', h7', h8', h9', h10', h11', h12', h13', h14', h15', h16', h17', h18', h19', h20', h21', h22', h23', h24', h25', h26', h27', h28', h29', h30', h31', h32', h33', h34', h35', h36', h37', h38', h39', h40', h41', h42', h43', h'⟩
        · refine Or.inl ⟨_ :: l, i', by rw [hl]; rfl, h6', h7', h8', h9', h10', h11', h12', h13', h14', h15', h16', h17', h18', h19', h20', h21', h22', h23', h24', h25', h26', h27', h28', h29', h30', h31', h32', h33', h34', h35', h36', h37', h38', h39', h40', h41', h42', h43', ?_⟩
          simp only
          rw [h', hby]
          simp
        · refine Or.inr ⟨by rw [hl]; rfl, es', i', h6', h7', h8', h9', h10', h11', h12', h13', h14', h15', h16', h17', h18', h19', h20', h21', h22', h23', h24', h25', h26', h27', h28', h29', h30', h31', h32', h33', h34', h35', h36', h37', h38', h39', h40', h41', h42', h43', ?_⟩
          simp only
          rw [h']
    · obtain ⟨g6', g7', g8', g9', g10', g11', g12', g13', g14', g15', g16', g17', g18', g19', g20', g21', g22', g23', g24', g25', g26', g27', g28', g29', g30', g31', g32', g33', g34', g35', g36', g37', g38', g39', g40', g41', g42', g43', h⟩ := outDone k s i hi' hi hs' es g6 g7 g8 g9 g10 g11 g12 g13 g14 g15 g16 g17 g18 g19 g20 g21 g22 g23 g24 g25 g26 g27 g28 g29 g30 g31 g32 g33 g34 g35 g36 g37 g38 g39 g40 g41 g42 g43
      have hd : unR (s.data.toList.drop i) = some [] := by
        have hlen : (s.data.toList.drop i).length ≤ 1 := by
          rw [List.length_drop, Array.length_toList]
          have : s.data.size = s.size := rfl
          omega
        match hx : s.data.toList.drop i, hlen with
        | [], _ => rfl
        | [_], _ => rfl
        | _ :: _ :: _, h => simp at h
      refine Or.inl ⟨[], .int .i64 i, hd, g6', g7', g8', g9', g10', g11', g12', g13', g14', g15', g16', g17', g18', g19', g20', g21', g22', g23', g24', g25', g26', g27', g28', g29', g30', g31', g32', g33', g34', g35', g36', g37', g38', g39', g40', g41', g42', g43', ?_⟩
      rw [iter, h]
      simp
end Go.Gm
