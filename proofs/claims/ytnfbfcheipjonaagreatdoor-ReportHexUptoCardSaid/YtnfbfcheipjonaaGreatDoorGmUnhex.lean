/- Base 16, read back. -/
import Derived.Test.YtnfbfcheipjonaaGreatDoorGmDraw
import Derived.Test.YtnfbfcheipjonaaGreatDoorGmRefHex
set_option maxRecDepth 100000
set_option linter.unusedSimpArgs false
namespace Go.Gm
open Go.Proofs

/-! ### The reference's text -/
noncomputable def unOut : Code := (loops (Tryz.f7.body.getD .skip)).getD 0 .skip
noncomputable def unIn : Code := (loops (Tryz.f7.body.getD .skip)).getD 1 .skip
theorem un_flo : E0.A.flo 7 6 = [] := by kernel_rfl
theorem un_skip : E0.A.skip 7 = false := by kernel_rfl
theorem unDraw (k : Nat) (ops : Array Oper) (s : St) : drawE E0 (callN E0 k) 7 6 ops s = match opSteps E0 (callN E0 k) 7 ops ops.toList s with | some (.norm, s') => some (.norm, s') | _ => drawP E0 (callN E0 k) 7 6 ops s := drawS un_skip un_flo s
theorem byte_int (a b : UInt8) : ((a.toNat : Int) = (b.toNat : Int)) = (a = b) := by
  apply propext
  constructor
  · intro h; exact UInt8.toNat_inj.1 (by omega)
  · rintro rfl; rfl
theorem byte_bne {a b : UInt8} (h : ¬ a = b) : ((a.toNat : Int) != (b.toNat : Int)) = true := by rw [bne_iff_ne]; rw [Ne, byte_int]; exact h
theorem inStep (k : Nat) (s : ByteArray) (i : Nat) (hi : i + 1 < s.size) (hs : s.size ≤ 140737488355328) (es : List (List PV)) (m : Mem) (b : Nat) (hb : b < 256) (q r : Nat) (hq : q = b / 16) (hr : r = b % 16)
    (hne : ¬ (hx q = s[i] ∧ hx r = s[i + 1])) (g7 g8 g9 g10 g11 g12 g13 g14 g15 g16 g17 g18 g19 g20 g21 g22 g23 g24 g25 g26 g27 g28 g29 g30 g31 g32 g33 g34 g35 g36 g37 g38 g39 g40 g41 g42 g43 : PV) :
    ∃ g7' g8' g9' g10' g11' g12' g13' g14' g15' g16' g17' g18' g19' g20' g21' g22' g23' g24' g25' g26' g27' g28' g29' g30' g31' g32' g33' g34' g35' g36' g37' g38' g39' g40' g41' g42' g43', exec E0 (callN E0 (k + 2)) (drawE E0 (callN E0 (k + 2))) (k + 2) 7 unIn ⟨[.str s, .dead, .str ⟨#[]⟩, .bool false, sv es, .int .i64 i, .int .i64 b, g7, g8, g9, g10, g11, g12, g13, g14, g15, g16, g17, g18, g19, g20, g21, g22, g23, g24, g25, g26, g27, g28, g29, g30, g31, g32, g33, g34, g35, g36, g37, g38, g39, g40, g41, g42, g43, .dead, .dead, .dead, .dead, .dead, .dead], m, []⟩ =
      some (.norm, ⟨[.str s, .dead, .str ⟨#[]⟩, .bool false, sv es, .int .i64 i, .int .i64 (b + 1 : Nat), g7', g8', g9', g10', g11', g12', g13', g14', g15', g16', g17', g18', g19', g20', g21', g22', g23', g24', g25', g26', g27', g28', g29', g30', g31', g32', g33', g34', g35', g36', g37', g38', g39', g40', g41', g42', g43', .dead, .dead, .dead, .dead, .dead, .dead], m, []⟩) := by
  have d1 := digit_hx q (by omega)
  have d2 := digit_hx r (by omega)
  have h1 := fun m => c18 k (q : Int) m (by omega) (by omega)
  have h2 := fun m => c18 k (r : Int) m (by omega) (by omega)
  rw [d1] at h1
  rw [d2] at h2
  have a0 := tdiv16 b
  have a1 := tmod16 b
  rw [← hq] at a0
  rw [← hr] at a1
  have w0 : IntKind.i64.wrap ((b : Int) + 1) = (b : Int) + 1 := wrap_i64 (by omega) (by omega)
  have w1 : IntKind.i64.wrap ((i : Int) + 1) = (i : Int) + 1 := wrap_i64 (by omega) (by omega)
  have w2 : IntKind.i64.wrap (q : Int) = q := wrap_i64 (by omega) (by omega)
  have hbl : (b : Int) < 256 := by omega
  have hi0 : i < s.size := by omega
  have hn : ((i : Int) + 1 < 0) = False := eq_false (by omega)
  simp only [unIn, loops, Tryz.f7, Option.getD_some, List.nil_append, List.append_nil, List.getD_cons_zero, List.cons_append, List.getD_cons_succ]
  by_cases e : hx q = s[i]
  · have e2 : ¬ hx r = s[i + 1] := fun e2 => hne ⟨e, e2⟩
    have b2 := byte_bne e2
    simp [execE, opSteps, opStep, wantedP, gop, geval, get, put, putD, ofV, ofV1, kdE, tt, fillP, PV.cells, okc, PV.one, refsE, refsL, splice, mutD, mutbE, acc0E, memE, peqE, litE, keepE, primE, GE, pur, pur1, chunks, builtinP, appendP, elems, szOk, lenP, rd, bin, intBinE, un, sliceQ, sliceP, asNat, extE, extT, extV, entP, lookP, setP, delP, leaveP, resP, frz, frz1, packP, killed0, deferP, eqPtr, eqPtr0, eqV, eqShape, isAggP, List.replicate, natNotNeg, Int.toNat_natCast, finE, unDraw, hi, hi0, hn, a0, a1, w0, w1, w2, h1, h2, hbl, e, b2]
  · have b1 := byte_bne e
    simp [execE, opSteps, opStep, wantedP, gop, geval, get, put, putD, ofV, ofV1, kdE, tt, fillP, PV.cells, okc, PV.one, refsE, refsL, splice, mutD, mutbE, acc0E, memE, peqE, litE, keepE, primE, GE, pur, pur1, chunks, builtinP, appendP, elems, szOk, lenP, rd, bin, intBinE, un, sliceQ, sliceP, asNat, extE, extT, extV, entP, lookP, setP, delP, leaveP, resP, frz, frz1, packP, killed0, deferP, eqPtr, eqPtr0, eqV, eqShape, isAggP, List.replicate, natNotNeg, Int.toNat_natCast, finE, unDraw, hi, hi0, hn, a0, a1, w0, w1, w2, h1, h2, hbl, b1]
theorem inHit (k : Nat) (s : ByteArray) (i : Nat) (hi : i + 1 < s.size) (hs : s.size ≤ 140737488355328) (es : List (List PV)) (m : Mem) (b : Nat) (hb : b < 256) (q r : Nat) (hq : q = b / 16) (hr : r = b % 16)
    (he1 : hx q = s[i]) (he2 : hx r = s[i + 1]) (g7 g8 g9 g10 g11 g12 g13 g14 g15 g16 g17 g18 g19 g20 g21 g22 g23 g24 g25 g26 g27 g28 g29 g30 g31 g32 g33 g34 g35 g36 g37 g38 g39 g40 g41 g42 g43 : PV) :
    ∃ g7' g8' g9' g10' g11' g12' g13' g14' g15' g16' g17' g18' g19' g20' g21' g22' g23' g24' g25' g26' g27' g28' g29' g30' g31' g32' g33' g34' g35' g36' g37' g38' g39' g40' g41' g42' g43', exec E0 (callN E0 (k + 2)) (drawE E0 (callN E0 (k + 2))) (k + 2) 7 unIn ⟨[.str s, .dead, .str ⟨#[]⟩, .bool false, sv es, .int .i64 i, .int .i64 b, g7, g8, g9, g10, g11, g12, g13, g14, g15, g16, g17, g18, g19, g20, g21, g22, g23, g24, g25, g26, g27, g28, g29, g30, g31, g32, g33, g34, g35, g36, g37, g38, g39, g40, g41, g42, g43, .dead, .dead, .dead, .dead, .dead, .dead], m, []⟩ =
      some (.exit 2, ⟨[.str s, .dead, .str ⟨#[]⟩, .bool false, sv es, .int .i64 i, .int .i64 b, g7', g8', g9', g10', g11', g12', g13', g14', g15', g16', g17', g18', g19', g20', g21', g22', g23', g24', g25', g26', g27', g28', g29', g30', g31', g32', g33', g34', g35', g36', g37', g38', g39', g40', g41', g42', g43', .dead, .dead, .dead, .dead, .dead, .dead], m, []⟩) := by
  have d1 := digit_hx q (by omega)
  have d2 := digit_hx r (by omega)
  have h1 := fun m => c18 k (q : Int) m (by omega) (by omega)
  have h2 := fun m => c18 k (r : Int) m (by omega) (by omega)
  rw [d1] at h1
  rw [d2] at h2
  have a0 := tdiv16 b
  have a1 := tmod16 b
  rw [← hq] at a0
  rw [← hr] at a1
  have w0 : IntKind.i64.wrap ((b : Int) + 1) = (b : Int) + 1 := wrap_i64 (by omega) (by omega)
  have w1 : IntKind.i64.wrap ((i : Int) + 1) = (i : Int) + 1 := wrap_i64 (by omega) (by omega)
  have w2 : IntKind.i64.wrap (q : Int) = q := wrap_i64 (by omega) (by omega)
  have hbl : (b : Int) < 256 := by omega
  have hi0 : i < s.size := by omega
  have hn : ((i : Int) + 1 < 0) = False := eq_false (by omega)
  simp only [unIn, loops, Tryz.f7, Option.getD_some, List.nil_append, List.append_nil, List.getD_cons_zero, List.cons_append, List.getD_cons_succ]
  simp [execE, opSteps, opStep, wantedP, gop, geval, get, put, putD, ofV, ofV1, kdE, tt, fillP, PV.cells, okc, PV.one, refsE, refsL, splice, mutD, mutbE, acc0E, memE, peqE, litE, keepE, primE, GE, pur, pur1, chunks, builtinP, appendP, elems, szOk, lenP, rd, bin, intBinE, un, sliceQ, sliceP, asNat, extE, extT, extV, entP, lookP, setP, delP, leaveP, resP, frz, frz1, packP, killed0, deferP, eqPtr, eqPtr0, eqV, eqShape, isAggP, List.replicate, natNotNeg, Int.toNat_natCast, finE, unDraw, hi, hi0, hn, a0, a1, w0, w1, w2, h1, h2, hbl, byte_int, he1, he2]
theorem inEnd (k : Nat) (s : ByteArray) (i : Nat) (es : List (List PV)) (m : Mem) (g7 g8 g9 g10 g11 g12 g13 g14 g15 g16 g17 g18 g19 g20 g21 g22 g23 g24 g25 g26 g27 g28 g29 g30 g31 g32 g33 g34 g35 g36 g37 g38 g39 g40 g41 g42 g43 : PV) :
    ∃ g7' g8' g9' g10' g11' g12' g13' g14' g15' g16' g17' g18' g19' g20' g21' g22' g23' g24' g25' g26' g27' g28' g29' g30' g31' g32' g33' g34' g35' g36' g37' g38' g39' g40' g41' g42' g43', exec E0 (callN E0 (k + 2)) (drawE E0 (callN E0 (k + 2))) (k + 2) 7 unIn ⟨[.str s, .dead, .str ⟨#[]⟩, .bool false, sv es, .int .i64 i, .int .i64 (256 : Nat), g7, g8, g9, g10, g11, g12, g13, g14, g15, g16, g17, g18, g19, g20, g21, g22, g23, g24, g25, g26, g27, g28, g29, g30, g31, g32, g33, g34, g35, g36, g37, g38, g39, g40, g41, g42, g43, .dead, .dead, .dead, .dead, .dead, .dead], m, []⟩ =
      some (.exit 2, ⟨[.str s, .dead, .str ⟨#[]⟩, .bool false, sv es, .int .i64 i, .int .i64 (256 : Nat), g7', g8', g9', g10', g11', g12', g13', g14', g15', g16', g17', g18', g19', g20', g21', g22', g23', g24', g25', g26', g27', g28', g29', g30', g31', g32', g33', g34', g35', g36', g37', g38', g39', g40', g41', g42', g43', .dead, .dead, .dead, .dead, .dead, .dead], m, []⟩) := by
  simp only [unIn, loops, Tryz.f7, Option.getD_some, List.nil_append, List.append_nil, List.getD_cons_zero, List.cons_append, List.getD_cons_succ]
  simp [execE, opSteps, opStep, wantedP, gop, geval, get, put, putD, ofV, ofV1, kdE, tt, fillP, PV.cells, okc, PV.one, refsE, refsL, splice, mutD, mutbE, acc0E, memE, peqE, litE, keepE, primE, GE, pur, pur1, chunks, builtinP, appendP, elems, szOk, lenP, rd, bin, intBinE, un, sliceQ, sliceP, asNat, extE, extT, extV, entP, lookP, setP, delP, leaveP, resP, frz, frz1, packP, killed0, deferP, eqPtr, eqPtr0, eqV, eqShape, isAggP, List.replicate, natNotNeg, Int.toNat_natCast, finE, unDraw]
/-- The first byte of which the two digits are these. -/
def srch (a c : UInt8) : Nat → Nat → Nat
  | 0, b => b
  | j + 1, b => if hx (b / 16) = a ∧ hx (b % 16) = c then b else srch a c j (b + 1)
theorem srch_le (a c : UInt8) : ∀ j b, srch a c j b ≤ b + j
  | 0, b => by simp [srch]
  | j + 1, b => by
    unfold srch
    split
    · omega
    · have := srch_le a c j (b + 1); omega
theorem inLoop (k : Nat) (s : ByteArray) (i : Nat) (hi : i + 1 < s.size) (hs : s.size ≤ 140737488355328) (es : List (List PV)) (m : Mem) : ∀ (j b : Nat), b + j = 256 → ∀ n, j + 1 ≤ n → ∀ (g7 g8 g9 g10 g11 g12 g13 g14 g15 g16 g17 g18 g19 g20 g21 g22 g23 g24 g25 g26 g27 g28 g29 g30 g31 g32 g33 g34 g35 g36 g37 g38 g39 g40 g41 g42 g43 : PV),
    ∃ g7' g8' g9' g10' g11' g12' g13' g14' g15' g16' g17' g18' g19' g20' g21' g22' g23' g24' g25' g26' g27' g28' g29' g30' g31' g32' g33' g34' g35' g36' g37' g38' g39' g40' g41' g42' g43', iter (exec E0 (callN E0 (k + 2)) (drawE E0 (callN E0 (k + 2))) (k + 2) 7 unIn) n ⟨[.str s, .dead, .str ⟨#[]⟩, .bool false, sv es, .int .i64 i, .int .i64 b, g7, g8, g9, g10, g11, g12, g13, g14, g15, g16, g17, g18, g19, g20, g21, g22, g23, g24, g25, g26, g27, g28, g29, g30, g31, g32, g33, g34, g35, g36, g37, g38, g39, g40, g41, g42, g43, .dead, .dead, .dead, .dead, .dead, .dead], m, []⟩ =
      some (.exit 2, ⟨[.str s, .dead, .str ⟨#[]⟩, .bool false, sv es, .int .i64 i, .int .i64 (srch s[i] s[i + 1] j b), g7', g8', g9', g10', g11', g12', g13', g14', g15', g16', g17', g18', g19', g20', g21', g22', g23', g24', g25', g26', g27', g28', g29', g30', g31', g32', g33', g34', g35', g36', g37', g38', g39', g40', g41', g42', g43', .dead, .dead, .dead, .dead, .dead, .dead], m, []⟩)
  | 0, b, hb, n, hn, g7, g8, g9, g10, g11, g12, g13, g14, g15, g16, g17, g18, g19, g20, g21, g22, g23, g24, g25, g26, g27, g28, g29, g30, g31, g32, g33, g34, g35, g36, g37, g38, g39, g40, g41, g42, g43 => by
    obtain ⟨n, rfl⟩ : ∃ m, n = m + 1 := ⟨n - 1, by omega⟩
    obtain rfl : b = 256 := by omega
    obtain ⟨g7', g8', g9', g10', g11', g12', g13', g14', g15', g16', g17', g18', g19', g20', g21', g22', g23', g24', g25', g26', g27', g28', g29', g30', g31', g32', g33', g34', g35', g36', g37', g38', g39', g40', g41', g42', g43', h⟩ := inEnd k s i es m g7 g8 g9 g10 g11 g12 g13 g14 g15 g16 g17 g18 g19 g20 g21 g22 g23 g24 g25 g26 g27 g28 g29 g30 g31 g32 g33 g34 g35 g36 g37 g38 g39 g40 g41 g42 g43
    exact ⟨g7', g8', g9', g10', g11', g12', g13', g14', g15', g16', g17', g18', g19', g20', g21', g22', g23', g24', g25', g26', g27', g28', g29', g30', g31', g32', g33', g34', g35', g36', g37', g38', g39', g40', g41', g42', g43', by rw [iter, h]; rfl⟩
  | j + 1, b, hb, n, hn, g7, g8, g9, g10, g11, g12, g13, g14, g15, g16, g17, g18, g19, g20, g21, g22, g23, g24, g25, g26, g27, g28, g29, g30, g31, g32, g33, g34, g35, g36, g37, g38, g39, g40, g41, g42, g43 => by
    obtain ⟨n, rfl⟩ : ∃ m, n = m + 1 := ⟨n - 1, by omega⟩
    by_cases hc : hx (b / 16) = s[i] ∧ hx (b % 16) = s[i + 1]
    · obtain ⟨g7', g8', g9', g10', g11', g12', g13', g14', g15', g16', g17', g18', g19', g20', g21', g22', g23', g24', g25', g26', g27', g28', g29', g30', g31', g32', g33', g34', g35', g36', g37', g38', g39', g40', g41', g42', g43', h⟩ := inHit k s i hi hs es m b (by omega) _ _ rfl rfl hc.1 hc.2 g7 g8 g9 g10 g11 g12 g13 g14 g15 g16 g17 g18 g19 g20 g21 g22 g23 g24 g25 g26 g27 g28 g29 g30 g31 g32 g33 g34 g35 g36 g37 g38 g39 g40 g41 g42 g43
      refine ⟨g7', g8', g9', g10', g11', g12', g13', g14', g15', g16', g17', g18', g19', g20', g21', g22', g23', g24', g25', g26', g27', g28', g29', g30', g31', g32', g33', g34', g35', g36', g37', g38', g39', g40', g41', g42', g43', ?_⟩
      rw [iter, h, srch, if_pos hc]
    · obtain ⟨g7', g8', g9', g10', g11', g12', g13', g14', g15', g16', g17', g18', g19', g20', g21', g22', g23', g24', g25', g26', g27', g28', g29', g30', g31', g32', g33', g34', g35', g36', g37', g38', g39', g40', g41', g42', g43', h⟩ := inStep k s i hi hs es m b (by omega) _ _ rfl rfl hc g7 g8 g9 g10 g11 g12 g13 g14 g15 g16 g17 g18 g19 g20 g21 g22 g23 g24 g25 g26 g27 g28 g29 g30 g31 g32 g33 g34 g35 g36 g37 g38 g39 g40 g41 g42 g43
      obtain ⟨h7', h8', h9', h10', h11', h12', h13', h14', h15', h16', h17', h18', h19', h20', h21', h22', h23', h24', h25', h26', h27', h28', h29', h30', h31', h32', h33', h34', h35', h36', h37', h38', h39', h40', h41', h42', h43', h'⟩ := inLoop k s i hi hs es m j (b + 1) (by omega) n (by omega) g7' g8' g9' g10' g11' g12' g13' g14' g15' g16' g17' g18' g19' g20' g21' g22' g23' g24' g25' g26' g27' g28' g29' g30' g31' g32' g33' g34' g35' g36' g37' g38' g39' g40' g41' g42' g43'
      refine ⟨h7', h8', h9', h10', h11', h12', h13', h14', h15', h16', h17', h18', h19', h20', h21', h22', h23', h24', h25', h26', h27', h28', h29', h30', h31', h32', h33', h34', h35', h36', h37', h38', h39', h40', h41', h42', h43', ?_⟩
      rw [iter, h, srch, if_neg hc]
      exact h'
end Go.Gm
