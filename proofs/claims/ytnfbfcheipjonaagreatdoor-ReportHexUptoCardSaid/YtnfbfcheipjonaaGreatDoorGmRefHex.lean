/- Base 16: the reference's own text. -/
import Derived.Test.YtnfbfcheipjonaaGreatDoorGmHex
set_option maxRecDepth 100000
set_option linter.unusedSimpArgs false
namespace Go.Gm
open Go.Proofs

/-- Bytes to a string. -/
theorem conv35 (x : PV) (m : Mem) : convP E0.P 35 9 x m = if szOk m 1 x = true ∧ isStrP x = false then ((elems m x).bind bytesP).map (fun l => .str ⟨l.toArray⟩) else none := by
  have h1 : E0.P.underlying 35 = some (.slice 5) := by kernel_rfl
  have h2 : E0.P.underlying 9 = some .string := by kernel_rfl
  have h3 : E0.P.underlying 5 = some (.int .u8) := by kernel_rfl
  unfold convP
  simp only [h1, h2, h3]
  by_cases h : szOk m 1 x = true ∧ isStrP x = false
  · rw [if_pos h, if_pos h]
    cases (elems m x).bind bytesP <;> rfl
  · rw [if_neg h, if_neg h]
theorem c18 (k : Nat) (n : Int) (m : Mem) (h0 : 0 ≤ n) (h1 : n < 16) : callN E0 (k + 2) 18 [.int .i64 n] m = some (.ret (.int .u8 (digitN n)), m) :=
  callN_pure (by rw [f18 k n h0 h1]; rfl) rfl rfl
theorem digit_hx : ∀ n : Nat, n < 16 → digitN (n : Int) = ((hx n).toNat : Int) := by decide
/-- A slice that is only ever appended to, in new memory. -/
def sv : List (List PV) → PV
  | [] => .nils
  | _ :: es => .acc 0 (es.length + 1)
def sm : List (List PV) → Mem
  | [] => []
  | e :: es => [.acc (some 5) 1 (e :: es)]
theorem tdiv16 (n : Nat) : (n : Int).tdiv 16 = ((n / 16 : Nat) : Int) := by rw [Int.tdiv_eq_ediv_of_nonneg (by omega)]; omega
theorem tmod16 (n : Nat) : (n : Int).tmod 16 = ((n % 16 : Nat) : Int) := by rw [Int.tmod_eq_emod_of_nonneg (by omega)]; omega
noncomputable def refB : Code := (loops (Tryz.f9.body.getD .skip)).getD 0 .skip
theorem refBody (k : Nat) (s : ByteArray) (i : Nat) (hi : i < s.size) (hs : s.size ≤ 140737488355328) (es : List (List PV)) (hes : es.length + 2 ≤ maxB) (q r : Nat) (hq : q = s[i].toNat / 16) (hr : r = s[i].toNat % 16) (g5 g6 g7 g8 g9 g10 g11 g12 g13 g14 g15 g16 g17 g18 g19 g20 g21 g22 g23 g24 g25 g26 g27 g28 : PV) :
    ∃ g5' g6' g7' g8' g9' g10' g11' g12' g13' g14' g15' g16' g17' g18' g19' g20' g21' g22' g23' g24' g25' g26' g27' g28', exec E0 (callN E0 (k + 2)) (drawE E0 (callN E0 (k + 2))) (k + 2) 9 refB ⟨[.str s, .dead, .str ⟨#[]⟩, sv es, .int .i64 i, g5, g6, g7, g8, g9, g10, g11, g12, g13, g14, g15, g16, g17, g18, g19, g20, g21, g22, g23, g24, g25, g26, g27, g28, .dead, .dead], sm es, []⟩ =
      some (.norm, ⟨[.str s, .dead, .str ⟨#[]⟩, sv (es ++ [[.int .u8 (hx q).toNat], [.int .u8 (hx r).toNat]]), .int .i64 (i + 1 : Nat), g5', g6', g7', g8', g9', g10', g11', g12', g13', g14', g15', g16', g17', g18', g19', g20', g21', g22', g23', g24', g25', g26', g27', g28', .dead, .dead], sm (es ++ [[.int .u8 (hx q).toNat], [.int .u8 (hx r).toNat]]), []⟩) := by
  have hb : s[i].toNat < 256 := s[i].toNat_lt
  have d1 := digit_hx q (by omega)
  have d2 := digit_hx r (by omega)
  have h1 := fun m => c18 k (q : Int) m (by omega) (by omega)
  have h2 := fun m => c18 k (r : Int) m (by omega) (by omega)
  rw [d1] at h1
  rw [d2] at h2
  have a0 := tdiv16 s[i].toNat
  have a1 := tmod16 s[i].toNat
  rw [← hq] at a0
  rw [← hr] at a1
  have w0 : IntKind.i64.wrap ((s[i].toNat : Nat) : Int) = (s[i].toNat : Nat) := wrap_i64 (by omega) (by omega)
  have w1 : IntKind.i64.wrap ((i : Int) + 1) = (i : Int) + 1 := wrap_i64 (by omega) (by omega)
  have w2 : IntKind.i64.wrap (q : Int) = q := wrap_i64 (by omega) (by omega)
  simp only [refB, loops, Tryz.f9, Option.getD_some, List.nil_append, List.append_nil, List.getD_cons_zero]
  cases es with
  | nil =>
    have b1 : 1 ≤ maxB := by decide
    have b2 : 2 ≤ maxB := by decide
    simp [execE, opSteps, opStep, wantedP, gop, geval, get, put, putD, ofV, ofV1, kdE, tt, fillP, PV.cells, okc, PV.one, refsE, refsL, splice, mutD, mutbE, acc0E, memE, peqE, litE, keepE, primE, GE, pur, pur1, chunks, builtinP, appendP, elems, szOk, lenP, rd, bin, intBinE, un, sliceQ, sliceP, asNat, extE, extT, extV, entP, lookP, setP, delP, leaveP, resP, frz, frz1, packP, killed0, deferP, eqPtr, eqPtr0, eqV, eqShape, isAggP, List.replicate, natNotNeg, Int.toNat_natCast, finE, hi, sv, sm, a0, a1, w0, w1, w2, h1, h2, b1, b2]
  | cons e es =>
    have b1 : es.length + 1 + 1 ≤ maxB := by simp at hes; omega
    have b2 : es.length + 1 + 1 + 1 ≤ maxB := by simp at hes; omega
    simp [execE, opSteps, opStep, wantedP, gop, geval, get, put, putD, ofV, ofV1, kdE, tt, fillP, PV.cells, okc, PV.one, refsE, refsL, splice, mutD, mutbE, acc0E, memE, peqE, litE, keepE, primE, GE, pur, pur1, chunks, builtinP, appendP, elems, szOk, lenP, rd, bin, intBinE, un, sliceQ, sliceP, asNat, extE, extT, extV, entP, lookP, setP, delP, leaveP, resP, frz, frz1, packP, killed0, deferP, eqPtr, eqPtr0, eqV, eqShape, isAggP, List.replicate, natNotNeg, Int.toNat_natCast, finE, hi, sv, sm, a0, a1, w0, w1, w2, h1, h2, b1, b2]
theorem refDone (k : Nat) (s : ByteArray) (es : List (List PV)) (g5 g6 g7 g8 g9 g10 g11 g12 g13 g14 g15 g16 g17 g18 g19 g20 g21 g22 g23 g24 g25 g26 g27 g28 : PV) :
    ∃ g5' g6' g7' g8' g9' g10' g11' g12' g13' g14' g15' g16' g17' g18' g19' g20' g21' g22' g23' g24' g25' g26' g27' g28', exec E0 (callN E0 (k + 2)) (drawE E0 (callN E0 (k + 2))) (k + 2) 9 refB ⟨[.str s, .dead, .str ⟨#[]⟩, sv es, .int .i64 s.size, g5, g6, g7, g8, g9, g10, g11, g12, g13, g14, g15, g16, g17, g18, g19, g20, g21, g22, g23, g24, g25, g26, g27, g28, .dead, .dead], sm es, []⟩ =
      some (.exit 0, ⟨[.str s, .dead, .str ⟨#[]⟩, sv es, .int .i64 s.size, g5', g6', g7', g8', g9', g10', g11', g12', g13', g14', g15', g16', g17', g18', g19', g20', g21', g22', g23', g24', g25', g26', g27', g28', .dead, .dead], sm es, []⟩) := by
  simp only [refB, loops, Tryz.f9, Option.getD_some, List.nil_append, List.append_nil, List.getD_cons_zero]
  simp [execE, opSteps, opStep, wantedP, gop, geval, get, put, putD, ofV, ofV1, kdE, tt, fillP, PV.cells, okc, PV.one, refsE, refsL, splice, mutD, mutbE, acc0E, memE, peqE, litE, keepE, primE, GE, pur, pur1, chunks, builtinP, appendP, elems, szOk, lenP, rd, bin, intBinE, un, sliceQ, sliceP, asNat, extE, extT, extV, entP, lookP, setP, delP, leaveP, resP, frz, frz1, packP, killed0, deferP, eqPtr, eqPtr0, eqV, eqShape, isAggP, List.replicate, natNotNeg, Int.toNat_natCast, finE]
theorem refLoop (k : Nat) (s : ByteArray) (hs : 2 * s.size ≤ maxB) : ∀ (j i : Nat) (es : List (List PV)), i + j = s.size → es.length = 2 * i → ∀ n, j + 1 ≤ n → ∀ (g5 g6 g7 g8 g9 g10 g11 g12 g13 g14 g15 g16 g17 g18 g19 g20 g21 g22 g23 g24 g25 g26 g27 g28 : PV),
    ∃ g5' g6' g7' g8' g9' g10' g11' g12' g13' g14' g15' g16' g17' g18' g19' g20' g21' g22' g23' g24' g25' g26' g27' g28', iter (exec E0 (callN E0 (k + 2)) (drawE E0 (callN E0 (k + 2))) (k + 2) 9 refB) n ⟨[.str s, .dead, .str ⟨#[]⟩, sv es, .int .i64 i, g5, g6, g7, g8, g9, g10, g11, g12, g13, g14, g15, g16, g17, g18, g19, g20, g21, g22, g23, g24, g25, g26, g27, g28, .dead, .dead], sm es, []⟩ =
      some (.exit 0, ⟨[.str s, .dead, .str ⟨#[]⟩, sv (es ++ (hexE (s.data.toList.drop i)).map byteP), .int .i64 s.size, g5', g6', g7', g8', g9', g10', g11', g12', g13', g14', g15', g16', g17', g18', g19', g20', g21', g22', g23', g24', g25', g26', g27', g28', .dead, .dead], sm (es ++ (hexE (s.data.toList.drop i)).map byteP), []⟩)
  | 0, i, es, hi, hl, n, hn, g5, g6, g7, g8, g9, g10, g11, g12, g13, g14, g15, g16, g17, g18, g19, g20, g21, g22, g23, g24, g25, g26, g27, g28 => by
    obtain ⟨n, rfl⟩ : ∃ m, n = m + 1 := ⟨n - 1, by omega⟩
    obtain rfl : i = s.size := by omega
    obtain ⟨g5', g6', g7', g8', g9', g10', g11', g12', g13', g14', g15', g16', g17', g18', g19', g20', g21', g22', g23', g24', g25', g26', g27', g28', h⟩ := refDone k s es g5 g6 g7 g8 g9 g10 g11 g12 g13 g14 g15 g16 g17 g18 g19 g20 g21 g22 g23 g24 g25 g26 g27 g28
    refine ⟨g5', g6', g7', g8', g9', g10', g11', g12', g13', g14', g15', g16', g17', g18', g19', g20', g21', g22', g23', g24', g25', g26', g27', g28', ?_⟩
    rw [iter, h]
    have hd : s.data.toList.drop s.size = [] := List.drop_of_length_le (by rw [Array.length_toList]; exact Nat.le_refl _)
    simp [hexE, hd]
  | j + 1, i, es, hi, hl, n, hn, g5, g6, g7, g8, g9, g10, g11, g12, g13, g14, g15, g16, g17, g18, g19, g20, g21, g22, g23, g24, g25, g26, g27, g28 => by
    obtain ⟨n, rfl⟩ : ∃ m, n = m + 1 := ⟨n - 1, by omega⟩
    have hi' : i < s.size := by omega
    obtain ⟨g5', g6', g7', g8', g9', g10', g11', g12', g13', g14', g15', g16', g17', g18', g19', g20', g21', g22', g23', g24', g25', g26', g27', g28', h⟩ := refBody k s i hi' (by unfold maxB at hs; omega) es (by omega) _ _ rfl rfl g5 g6 g7 g8 g9 g10 g11 g12 g13 g14 g15 g16 g17 g18 g19 g20 g21 g22 g23 g24 g25 g26 g27 g28
    rw [iter, h]
    obtain ⟨h5', h6', h7', h8', h9', h10', h11', h12', h13', h14', h15', h16', h17', h18', h19', h20', h21', h22', h23', h24', h25', h26', h27', h28', h'⟩ := refLoop k s hs j (i + 1) (es ++ [[.int .u8 (hx (s[i].toNat / 16)).toNat], [.int .u8 (hx (s[i].toNat % 16)).toNat]]) (by omega) (by simp; omega) n (by omega) g5' g6' g7' g8' g9' g10' g11' g12' g13' g14' g15' g16' g17' g18' g19' g20' g21' g22' g23' g24' g25' g26' g27' g28'
    refine ⟨h5', h6', h7', h8', h9', h10', h11', h12', h13', h14', h15', h16', h17', h18', h19', h20', h21', h22', h23', h24', h25', h26', h27', h28', ?_⟩
    simp only
    rw [h']
    have hd : s.data.toList.drop i = s[i] :: s.data.toList.drop (i + 1) := by
      rw [List.drop_eq_getElem_cons (by simpa using hi')]
      rfl
    rw [hd]
    simp [hexE, byteP]
/-- Base 16, by the reference. -/
theorem f9 (k : Nat) (s : ByteArray) (hs : 2 * s.size ≤ maxB) (hk : s.size + 5 ≤ k) : (run E0 k 9 [.str s] []).map Prod.fst = some (.ret (.str ⟨(hexE s.data.toList).toArray⟩)) := by
  obtain ⟨k, rfl⟩ : ∃ m, k = m + 2 + 1 := ⟨k - 3, by omega⟩
  obtain ⟨g5', g6', g7', g8', g9', g10', g11', g12', g13', g14', g15', g16', g17', g18', g19', g20', g21', g22', g23', g24', g25', g26', g27', g28', h⟩ := refLoop k s hs s.size 0 [] (by omega) rfl (k + 2) (by omega) .dead .dead .dead .dead .dead .dead .dead .dead .dead .dead .dead .dead .dead .dead .dead .dead .dead .dead .dead .dead .dead .dead .dead .dead
  simp only [List.nil_append, List.drop_zero] at h
  rw [← execLoop] at h
  simp only [refB, loops, Tryz.f9, Option.getD_some, List.nil_append, List.append_nil, List.getD_cons_zero] at h
  rw [runS (primE _) (fn_of Tryz.func9) rfl]
  have hb := bytesP_map (hexE s.data.toList)
  have hl := hexE_len s.data.toList
  have hm : (hexE s.data.toList).length ≤ maxB := by rw [hl]; simpa using hs
  cases e : hexE s.data.toList with
  | nil =>
    rw [e] at h
    simp [sv, sm] at h
    simp [execE, opSteps, opStep, wantedP, gop, geval, get, put, putD, ofV, ofV1, kdE, tt, fillP, PV.cells, okc, PV.one, refsE, refsL, splice, mutD, mutbE, acc0E, memE, peqE, litE, keepE, primE, GE, pur, pur1, chunks, builtinP, appendP, elems, szOk, lenP, rd, bin, intBinE, un, sliceQ, sliceP, asNat, extE, extT, extV, entP, lookP, setP, delP, leaveP, resP, frz, frz1, packP, killed0, deferP, eqPtr, eqPtr0, eqV, eqShape, isAggP, List.replicate, natNotNeg, Int.toNat_natCast, finE, conv35, isStrP, Tryz.f9, sv, sm, h, bytesP]
  | cons b l =>
    rw [e] at h hb hm
    simp [sv, sm] at h hb hm
    have ht : List.take l.length (List.map byteP l) = List.map byteP l := List.take_of_length_le (by simp)
    simp [execE, opSteps, opStep, wantedP, gop, geval, get, put, putD, ofV, ofV1, kdE, tt, fillP, PV.cells, okc, PV.one, refsE, refsL, splice, mutD, mutbE, acc0E, memE, peqE, litE, keepE, primE, GE, pur, pur1, chunks, builtinP, appendP, elems, szOk, lenP, rd, bin, intBinE, un, sliceQ, sliceP, asNat, extE, extT, extV, entP, lookP, setP, delP, leaveP, resP, frz, frz1, packP, killed0, deferP, eqPtr, eqPtr0, eqV, eqShape, isAggP, List.replicate, natNotNeg, Int.toNat_natCast, finE, conv35, isStrP, Tryz.f9, sv, sm, h, hb, hm, ht]
theorem c9 (k : Nat) (s : ByteArray) (m : Mem) (hs : 2 * s.size ≤ maxB) (hk : s.size + 5 ≤ k) : callN E0 k 9 [.str s] m = some (.ret (.str ⟨(hexE s.data.toList).toArray⟩), m) :=
  callN_pure (f9 k s hs hk) rfl rfl
end Go.Gm
