/- Base 16: the functions of both texts. -/
import Derived.Test.YtnfbfcheipjonaaGreatDoorGmSim
set_option maxRecDepth 100000
set_option linter.unusedSimpArgs false
namespace Go.Gm
open Go.Proofs

def digitN (n : Int) : Int := if n < 10 then 48 + n else 87 + n
theorem wrap_i64 {n : Int} (h0 : -9223372036854775808 ≤ n) (h1 : n < 9223372036854775808) : IntKind.i64.wrap n = n := IntWalk.i64_in _ (by omega)
theorem f18 (k : Nat) (n : Int) (h0 : 0 ≤ n) (h1 : n < 16) : run E0 (k + 2) 18 [.int .i64 n] [] = some (.ret (.int .u8 (digitN n)), []) := by
  by_cases h : n < 10
  · have e1 : IntKind.i64.wrap (48 + n) = 48 + n := wrap_i64 (by omega) (by omega)
    have e2 : IntKind.u8.wrap (48 + n) = 48 + n := IntWalk.u8_in _ (by omega)
    rw [runS (primE _) (fn_of Tryz.func18) rfl]
    simp [execE, opSteps, opStep, wantedP, gop, geval, get, put, putD, ofV, ofV1, kdE, tt, fillP, PV.cells, okc, PV.one, refsE, refsL, splice, mutD, mutbE, acc0E, memE, peqE, litE, keepE, primE, GE, pur, pur1, chunks, builtinP, appendP, elems, szOk, lenP, rd, bin, intBinE, un, sliceQ, sliceP, asNat, extE, extT, extV, entP, lookP, setP, delP, leaveP, resP, frz, frz1, packP, killed0, deferP, eqPtr, eqPtr0, eqV, eqShape, isAggP, List.replicate, natNotNeg, Int.toNat_natCast, finE, Tryz.f18, h, digitN, e1, e2]
  · have e1 : IntKind.i64.wrap (87 + n) = 87 + n := wrap_i64 (by omega) (by omega)
    have e2 : IntKind.u8.wrap (87 + n) = 87 + n := IntWalk.u8_in _ (by omega)
    rw [runS (primE _) (fn_of Tryz.func18) rfl]
    simp [execE, opSteps, opStep, wantedP, gop, geval, get, put, putD, ofV, ofV1, kdE, tt, fillP, PV.cells, okc, PV.one, refsE, refsL, splice, mutD, mutbE, acc0E, memE, peqE, litE, keepE, primE, GE, pur, pur1, chunks, builtinP, appendP, elems, szOk, lenP, rd, bin, intBinE, un, sliceQ, sliceP, asNat, extE, extT, extV, entP, lookP, setP, delP, leaveP, resP, frz, frz1, packP, killed0, deferP, eqPtr, eqPtr0, eqV, eqShape, isAggP, List.replicate, natNotNeg, Int.toNat_natCast, finE, Tryz.f18, h, digitN, e1, e2]

def B0 : Mem := [.var ⟨37, true⟩ [.nilp, .nils]]
def B1 (es : List (List PV)) : Mem := [.var ⟨37, true⟩ [.ptr 0 0, .acc 1 es.length], .acc (some 5) 1 es]
theorem f16a (k : Nat) (x : Int) : run E0 (k + 3) 16 [.ptr 0 0, .int .u8 x] B0 = some (.ret .nili, B1 [[.int .u8 x]]) := by kernel_rfl
theorem c28b (k : Nat) (es : List (List PV)) : callN E0 (k + 3) 28 [.ptr 0 0] (B1 es) = some (.ret (.tup []), B1 es) := by kernel_rfl
theorem f16b (k : Nat) (x : Int) (es : List (List PV)) (h : es.length + 1 ≤ maxB) : run E0 (k + 4) 16 [.ptr 0 0, .int .u8 x] (B1 es) = some (.ret .nili, B1 (es ++ [[.int .u8 x]])) := by
  have h28 := c28b k es
  simp only [B1] at h28
  rw [runS (primE _) (fn_of Tryz.func16) rfl]
  simp [execE, opSteps, opStep, wantedP, gop, geval, get, put, putD, ofV, ofV1, kdE, tt, fillP, PV.cells, okc, PV.one, refsE, refsL, splice, mutD, mutbE, acc0E, memE, peqE, litE, keepE, primE, GE, pur, pur1, chunks, builtinP, appendP, elems, szOk, lenP, rd, bin, intBinE, un, sliceQ, sliceP, asNat, extE, extT, extV, entP, lookP, setP, delP, leaveP, resP, frz, frz1, packP, killed0, deferP, eqPtr, eqPtr0, eqV, eqShape, isAggP, List.replicate, natNotNeg, Int.toNat_natCast, finE, Tryz.f16, h28, B1, h]
theorem c16b (k : Nat) (x : Int) (es : List (List PV)) (h : es.length + 1 ≤ maxB) : callN E0 (k + 4) 16 [.ptr 0 0, .int .u8 x] (B1 es) = some (.ret .nili, B1 (es ++ [[.int .u8 x]])) :=
  iso_of (L := [0, 1]) (by kernel_rfl) (f16b k x es h) (by kernel_rfl)
theorem c16a (k : Nat) (x : Int) : callN E0 (k + 4) 16 [.ptr 0 0, .int .u8 x] B0 = some (.ret .nili, B1 [[.int .u8 x]]) := by kernel_rfl
def BB : List (List PV) → Mem
  | [] => B0
  | e :: es => B1 (e :: es)
theorem c16 (k : Nat) (x : Int) (es : List (List PV)) (h : es.length + 1 ≤ maxB) : callN E0 (k + 4) 16 [.ptr 0 0, .int .u8 x] (BB es) = some (.ret .nili, BB (es ++ [[.int .u8 x]])) := by
  cases es with
  | nil => exact c16a k x
  | cons e es => exact c16b k x (e :: es) h
abbrev digitsB : ByteArray := ⟨#[48, 49, 50, 51, 52, 53, 54, 55, 56, 57, 97, 98, 99, 100, 101, 102]⟩
def hx (n : Nat) : UInt8 := if n < 10 then (48 + n).toUInt8 else (87 + n).toUInt8
theorem digits_at : ∀ n : Nat, n < 16 → digitsB[n]? = some (hx n) := by decide
theorem fdiv16 (n : Nat) : (n : Int).fdiv 16 = ((n / 16 : Nat) : Int) := by rw [Int.fdiv_eq_ediv_of_nonneg _ (by omega)]; omega
theorem and15 : ∀ n : Nat, n < 256 → bandI .u8 n 15 = ((n % 16 : Nat) : Int) := by decide +kernel
def byteP (b : UInt8) : List PV := [.int .u8 b.toNat]
noncomputable def hexB : Code := (loops (Tryz.f8.body.getD .skip)).getD 0 .skip
theorem hexBody (k : Nat) (s : ByteArray) (i : Nat) (hi : i < s.size) (hs : s.size ≤ 140737488355328) (es : List (List PV)) (hes : es.length + 2 ≤ maxB) (q r : Nat) (hq : q = s[i].toNat / 16) (hr : r = s[i].toNat % 16) (g4 g8 g9 g10 g11 g12 g13 g14 g15 g16 g17 g18 g19 g20 g21 g22 : PV) :
    ∃ g4' g8' g9' g10' g11' g12' g13' g14' g15' g16' g17' g18' g19' g20' g21' g22', exec E0 (callN E0 (k + 4)) (drawE E0 (callN E0 (k + 4))) (k + 4) 8 hexB ⟨[.str s, .dead, .str ⟨#[]⟩, .ptr 0 0, g4, .str s, .int .i64 s.size, .int .i64 i, g8, g9, g10, g11, g12, g13, g14, g15, g16, g17, g18, g19, g20, g21, g22, .dead], BB es, []⟩ =
      some (.norm, ⟨[.str s, .dead, .str ⟨#[]⟩, .ptr 0 0, g4', .str s, .int .i64 s.size, .int .i64 (i + 1 : Nat), g8', g9', g10', g11', g12', g13', g14', g15', g16', g17', g18', g19', g20', g21', g22', .dead], BB (es ++ [[.int .u8 (hx q).toNat], [.int .u8 (hx r).toNat]]), []⟩) := by
  have h1 := fun x => c16 k x es (by omega)
  have h2 := fun x y => c16 k x (es ++ [[.int .u8 y]]) (by simp; omega)
  simp only [hexB, loops, Tryz.f8, Option.getD_some, List.nil_append, List.append_nil, List.getD_cons_zero]
  have hb : s[i].toNat < 256 := s[i].toNat_lt
  have d1 := digits_at q (by omega)
  have d2 := digits_at r (by omega)
  have a0 := fdiv16 s[i].toNat
  have a1 := and15 _ hb
  rw [← hq] at a0
  rw [← hr] at a1
  have w1 : IntKind.i64.wrap ((i : Int) + 1) = (i : Int) + 1 := wrap_i64 (by omega) (by omega)
  simp [execE, opSteps, opStep, wantedP, gop, geval, get, put, putD, ofV, ofV1, kdE, tt, fillP, PV.cells, okc, PV.one, refsE, refsL, splice, mutD, mutbE, acc0E, memE, peqE, litE, keepE, primE, GE, pur, pur1, chunks, builtinP, appendP, elems, szOk, lenP, rd, bin, intBinE, un, sliceQ, sliceP, asNat, extE, extT, extV, entP, lookP, setP, delP, leaveP, resP, frz, frz1, packP, killed0, deferP, eqPtr, eqPtr0, eqV, eqShape, isAggP, List.replicate, natNotNeg, Int.toNat_natCast, finE, hi]
  simp [execE, opSteps, opStep, wantedP, gop, geval, get, put, putD, ofV, ofV1, kdE, tt, fillP, PV.cells, okc, PV.one, refsE, refsL, splice, mutD, mutbE, acc0E, memE, peqE, litE, keepE, primE, GE, pur, pur1, chunks, builtinP, appendP, elems, szOk, lenP, rd, bin, intBinE, un, sliceQ, sliceP, asNat, extE, extT, extV, entP, lookP, setP, delP, leaveP, resP, frz, frz1, packP, killed0, deferP, eqPtr, eqPtr0, eqV, eqShape, isAggP, List.replicate, natNotNeg, Int.toNat_natCast, finE, hi, d1, d2, a0, a1, w1, IntKind.bits, h1, h2]
theorem hexDone (k : Nat) (s : ByteArray) (m : Mem) (g4 g8 g9 g10 g11 g12 g13 g14 g15 g16 g17 g18 g19 g20 g21 g22 : PV) :
    ∃ g4' g8' g9' g10' g11' g12' g13' g14' g15' g16' g17' g18' g19' g20' g21' g22', exec E0 (callN E0 (k + 4)) (drawE E0 (callN E0 (k + 4))) (k + 4) 8 hexB ⟨[.str s, .dead, .str ⟨#[]⟩, .ptr 0 0, g4, .str s, .int .i64 s.size, .int .i64 s.size, g8, g9, g10, g11, g12, g13, g14, g15, g16, g17, g18, g19, g20, g21, g22, .dead], m, []⟩ =
      some (.exit 0, ⟨[.str s, .dead, .str ⟨#[]⟩, .ptr 0 0, g4', .str s, .int .i64 s.size, .int .i64 s.size, g8', g9', g10', g11', g12', g13', g14', g15', g16', g17', g18', g19', g20', g21', g22', .dead], m, []⟩) := by
  simp only [hexB, loops, Tryz.f8, Option.getD_some, List.nil_append, List.append_nil, List.getD_cons_zero]
  simp [execE, opSteps, opStep, wantedP, gop, geval, get, put, putD, ofV, ofV1, kdE, tt, fillP, PV.cells, okc, PV.one, refsE, refsL, splice, mutD, mutbE, acc0E, memE, peqE, litE, keepE, primE, GE, pur, pur1, chunks, builtinP, appendP, elems, szOk, lenP, rd, bin, intBinE, un, sliceQ, sliceP, asNat, extE, extT, extV, entP, lookP, setP, delP, leaveP, resP, frz, frz1, packP, killed0, deferP, eqPtr, eqPtr0, eqV, eqShape, isAggP, List.replicate, natNotNeg, Int.toNat_natCast, finE]

def hexE : List UInt8 → List UInt8
  | [] => []
  | b :: r => hx (b.toNat / 16) :: hx (b.toNat % 16) :: hexE r
theorem hexE_len : ∀ l, (hexE l).length = 2 * l.length
  | [] => rfl
  | b :: r => by simp [hexE, hexE_len r]; omega

theorem hexLoop (k : Nat) (s : ByteArray) (hs : 2 * s.size ≤ maxB) : ∀ (j i : Nat) (es : List (List PV)), i + j = s.size → es.length = 2 * i → ∀ n, j + 1 ≤ n → ∀ (g4 g8 g9 g10 g11 g12 g13 g14 g15 g16 g17 g18 g19 g20 g21 g22 : PV),
    ∃ g4' g8' g9' g10' g11' g12' g13' g14' g15' g16' g17' g18' g19' g20' g21' g22', iter (exec E0 (callN E0 (k + 4)) (drawE E0 (callN E0 (k + 4))) (k + 4) 8 hexB) n ⟨[.str s, .dead, .str ⟨#[]⟩, .ptr 0 0, g4, .str s, .int .i64 s.size, .int .i64 i, g8, g9, g10, g11, g12, g13, g14, g15, g16, g17, g18, g19, g20, g21, g22, .dead], BB es, []⟩ =
      some (.exit 0, ⟨[.str s, .dead, .str ⟨#[]⟩, .ptr 0 0, g4', .str s, .int .i64 s.size, .int .i64 s.size, g8', g9', g10', g11', g12', g13', g14', g15', g16', g17', g18', g19', g20', g21', g22', .dead], BB (es ++ (hexE (s.data.toList.drop i)).map byteP), []⟩)
  | 0, i, es, hi, hl, n, hn, g4, g8, g9, g10, g11, g12, g13, g14, g15, g16, g17, g18, g19, g20, g21, g22 => by
    obtain ⟨n, rfl⟩ : ∃ m, n = m + 1 := ⟨n - 1, by omega⟩
    obtain rfl : i = s.size := by omega
    obtain ⟨g4', g8', g9', g10', g11', g12', g13', g14', g15', g16', g17', g18', g19', g20', g21', g22', h⟩ := hexDone k s (BB es) g4 g8 g9 g10 g11 g12 g13 g14 g15 g16 g17 g18 g19 g20 g21 g22
    refine ⟨g4', g8', g9', g10', g11', g12', g13', g14', g15', g16', g17', g18', g19', g20', g21', g22', ?_⟩
    rw [iter, h]
    have hd : s.data.toList.drop s.size = [] := List.drop_of_length_le (by rw [Array.length_toList]; exact Nat.le_refl _)
    simp [hexE, hd]
  | j + 1, i, es, hi, hl, n, hn, g4, g8, g9, g10, g11, g12, g13, g14, g15, g16, g17, g18, g19, g20, g21, g22 => by
    obtain ⟨n, rfl⟩ : ∃ m, n = m + 1 := ⟨n - 1, by omega⟩
    have hi' : i < s.size := by omega
    obtain ⟨g4', g8', g9', g10', g11', g12', g13', g14', g15', g16', g17', g18', g19', g20', g21', g22', h⟩ := hexBody k s i hi' (by unfold maxB at hs; omega) es (by omega) _ _ rfl rfl g4 g8 g9 g10 g11 g12 g13 g14 g15 g16 g17 g18 g19 g20 g21 g22
    rw [iter, h]
    obtain ⟨h4', h8', h9', h10', h11', h12', h13', h14', h15', h16', h17', h18', h19', h20', h21', h22', h'⟩ := hexLoop k s hs j (i + 1) (es ++ [[.int .u8 (hx (s[i].toNat / 16)).toNat], [.int .u8 (hx (s[i].toNat % 16)).toNat]]) (by omega) (by simp; omega) n (by omega) g4' g8' g9' g10' g11' g12' g13' g14' g15' g16' g17' g18' g19' g20' g21' g22'
    refine ⟨h4', h8', h9', h10', h11', h12', h13', h14', h15', h16', h17', h18', h19', h20', h21', h22', ?_⟩
    simp only
    rw [h']
    have hd : s.data.toList.drop i = s[i] :: s.data.toList.drop (i + 1) := by
      rw [List.drop_eq_getElem_cons (by simpa using hi')]
      rfl
    rw [hd]
    simp [hexE, byteP]

theorem bytesP_map : ∀ l : List UInt8, bytesP (l.map byteP) = some l
  | [] => rfl
  | b :: r => by simp [bytesP, byteP, bytesP_map r]
theorem lies5 (n : Nat) : liesAt E0.P E0.P.depth 5 (n / E0.P.cellsOf 5) 0 5 n = true := by
  have h1 : E0.P.cellsOf 5 = 1 := by kernel_rfl
  have h2 : ∃ d, E0.P.depth = d + 1 := ⟨E0.P.depth - 1, by kernel_rfl⟩
  obtain ⟨d, hd⟩ := h2
  have h3 : ∀ d, sameLayout E0.P (d + 1) 5 5 = true := fun d => by simp [sameLayout]
  rw [hd, h1]
  simp [liesAt, rowAt, hd, h1, h3]
theorem f17 (k : Nat) (l : List UInt8) (h : l.length ≤ maxB) : run E0 (k + 2) 17 [.ptr 0 0] (BB (l.map byteP)) = some (.ret (.str ⟨l.toArray⟩), BB (l.map byteP)) := by
  cases l with
  | nil => kernel_rfl
  | cons b l =>
    have hb := bytesP_map (b :: l)
    rw [List.map_cons] at hb
    have hl := lies5 (l.length + 1)
    have hu : E0.P.underlying 56 = some (.pointer 5) := by kernel_rfl
    have hm : ¬ maxB < l.length + 1 := by simp at h; omega
    rw [runS (primE _) (fn_of Tryz.func17) rfl]
    have hf : E0.A.flo 17 1 = [(6, [4]), (7, [4]), (8, [4]), (9, [4])] := by kernel_rfl
    simp [execE, opSteps, opStep, wantedP, gop, geval, get, put, putD, ofV, ofV1, kdE, tt, fillP, PV.cells, okc, PV.one, refsE, refsL, splice, mutD, mutbE, acc0E, memE, peqE, litE, keepE, primE, GE, pur, pur1, chunks, builtinP, appendP, elems, szOk, lenP, rd, bin, intBinE, un, sliceQ, sliceP, asNat, extE, extT, extV, entP, lookP, setP, delP, leaveP, resP, frz, frz1, packP, killed0, deferP, eqPtr, eqPtr0, eqV, eqShape, isAggP, List.replicate, natNotNeg, Int.toNat_natCast, finE, drawE, runT, dynOK, dyn1, same, skipE, hf, Tryz.f17, BB, B1, hl, hb, hu, hm]
theorem c17 (k : Nat) (l : List UInt8) (h : l.length ≤ maxB) : callN E0 (k + 2) 17 [.ptr 0 0] (BB (l.map byteP)) = some (.ret (.str ⟨l.toArray⟩), BB (l.map byteP)) := by
  cases l with
  | nil => kernel_rfl
  | cons b l => exact iso_of (L := [0, 1]) (by kernel_rfl) (f17 k (b :: l) h) (by kernel_rfl)

/-- Bytes in base 16. -/
theorem f8 (k : Nat) (s : ByteArray) (hs : 2 * s.size ≤ maxB) (hk : s.size + 5 ≤ k) : (run E0 k 8 [.str s] []).map Prod.fst = some (.ret (.str ⟨(hexE s.data.toList).toArray⟩)) := by
  obtain ⟨k, rfl⟩ : ∃ m, k = m + 4 + 1 := ⟨k - 5, by omega⟩
  obtain ⟨g4', g8', g9', g10', g11', g12', g13', g14', g15', g16', g17', g18', g19', g20', g21', g22', h⟩ := hexLoop k s hs s.size 0 [] (by omega) rfl (k + 4) (by omega) .dead .dead .dead .dead .dead .dead .dead .dead .dead .dead .dead .dead .dead .dead .dead .dead
  have h17 := c17 (k + 2) (hexE s.data.toList) (by rw [hexE_len]; exact hs)
  simp only [List.nil_append, List.drop_zero] at h
  rw [← execLoop] at h
  simp only [hexB, loops, Tryz.f8, Option.getD_some, List.nil_append, List.append_nil, List.getD_cons_zero] at h
  rw [runS (primE _) (fn_of Tryz.func8) rfl]
  have hB : BB [] = [Blk.var ⟨37, true⟩ [.nilp, .nils]] := rfl
  rw [hB] at h
  simp [execE, opSteps, opStep, wantedP, gop, geval, get, put, putD, ofV, ofV1, kdE, tt, fillP, PV.cells, okc, PV.one, refsE, refsL, splice, mutD, mutbE, acc0E, memE, peqE, litE, keepE, primE, GE, pur, pur1, chunks, builtinP, appendP, elems, szOk, lenP, rd, bin, intBinE, un, sliceQ, sliceP, asNat, extE, extT, extV, entP, lookP, setP, delP, leaveP, resP, frz, frz1, packP, killed0, deferP, eqPtr, eqPtr0, eqV, eqShape, isAggP, List.replicate, natNotNeg, Int.toNat_natCast, finE] at h
  simp [execE, opSteps, opStep, wantedP, gop, geval, get, put, putD, ofV, ofV1, kdE, tt, fillP, PV.cells, okc, PV.one, refsE, refsL, splice, mutD, mutbE, acc0E, memE, peqE, litE, keepE, primE, GE, pur, pur1, chunks, builtinP, appendP, elems, szOk, lenP, rd, bin, intBinE, un, sliceQ, sliceP, asNat, extE, extT, extV, entP, lookP, setP, delP, leaveP, resP, frz, frz1, packP, killed0, deferP, eqPtr, eqPtr0, eqV, eqShape, isAggP, List.replicate, natNotNeg, Int.toNat_natCast, finE, Tryz.f8, h, h17]
theorem c8 (k : Nat) (s : ByteArray) (m : Mem) (hs : 2 * s.size ≤ maxB) (hk : s.size + 5 ≤ k) : callN E0 k 8 [.str s] m = some (.ret (.str ⟨(hexE s.data.toList).toArray⟩), m) :=
  callN_pure (f8 k s hs hk) rfl rfl
end Go.Gm
