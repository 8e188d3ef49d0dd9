/- Base 16, read back by the program. -/
import Derived.Test.YtnfbfcheipjonaaGreatDoorGmUnhex7
set_option maxRecDepth 100000
set_option linter.unusedSimpArgs false
namespace Go.Gm
open Go.Proofs
def idx (b : UInt8) : Int := match (List.range 16).find? (fun i => digitsB[i]! == b) with
  | some i => i
  | none => -1
theorem f27 (k : Nat) (b : UInt8) : run E0 (k + 2) 27 [.str digitsB, .int .u8 b.toNat] [] = some (.ret (.int .i64 (idx b)), []) := by
  have hb : ((b.toNat : Int).toNat).toUInt8 = b := by simp
  have hz : digitsB.size = 16 := rfl
  have hx : extV .indexByte [.str digitsB, .int .u8 b.toNat] = some (.int .i64 (idx b)) := by
    simp only [extV, hb, hz, idx]
    generalize List.find? _ _ = o
    cases o <;> rfl
  rw [runS (primE _) (fn_of Tryz.func27) rfl]
  simp [execE, opSteps, opStep, wantedP, gop, geval, get, put, putD, ofV, ofV1, kdE, tt, fillP, PV.cells, okc, PV.one, refsE, refsL, splice, mutD, mutbE, acc0E, memE, peqE, litE, keepE, primE, GE, pur, pur1, chunks, builtinP, appendP, elems, szOk, lenP, rd, bin, intBinE, un, sliceQ, sliceP, asNat, extE, extT, extV, entP, lookP, setP, delP, leaveP, resP, frz, frz1, packP, killed0, deferP, eqPtr, eqPtr0, eqV, eqShape, isAggP, List.replicate, natNotNeg, Int.toNat_natCast, finE, -extV, Tryz.f27, hx]
theorem c27 (k : Nat) (b : UInt8) (m : Mem) : callN E0 (k + 2) 27 [.str digitsB, .int .u8 b.toNat] m = some (.ret (.int .i64 (idx b)), m) :=
  callN_pure (by rw [f27]; rfl) rfl rfl
theorem f15 (k : Nat) (b : UInt8) : run E0 (k + 3) 15 [.str digitsB, .int .u8 b.toNat] [] = some (.ret (.int .i64 (idx b)), []) := by
  have h := c27 k b []
  rw [runS (primE _) (fn_of Tryz.func15) rfl]
  simp [execE, opSteps, opStep, wantedP, gop, geval, get, put, putD, ofV, ofV1, kdE, tt, fillP, PV.cells, okc, PV.one, refsE, refsL, splice, mutD, mutbE, acc0E, memE, peqE, litE, keepE, primE, GE, pur, pur1, chunks, builtinP, appendP, elems, szOk, lenP, rd, bin, intBinE, un, sliceQ, sliceP, asNat, extE, extT, extV, entP, lookP, setP, delP, leaveP, resP, frz, frz1, packP, killed0, deferP, eqPtr, eqPtr0, eqV, eqShape, isAggP, List.replicate, natNotNeg, Int.toNat_natCast, finE, Tryz.f15, h]
theorem c15 (k : Nat) (b : UInt8) (m : Mem) : callN E0 (k + 3) 15 [.str digitsB, .int .u8 b.toNat] m = some (.ret (.int .i64 (idx b)), m) :=
  callN_pure (by rw [f15]; rfl) rfl rfl
theorem shlor : ∀ p, p < 16 → ∀ q, q < 16 → IntKind.u8.wrap (borI .i64 (IntKind.i64.wrap ((p : Nat) * 2 ^ min 4 IntKind.i64.bits)) (q : Nat)) = ((16 * p + q : Nat) : Int) := by decide +kernel
noncomputable def un6 : Code := (loops (Tryz.f6.body.getD .skip)).getD 0 .skip
theorem un6_flo : E0.A.flo 6 7 = [] := by kernel_rfl
theorem un6_skip : E0.A.skip 6 = false := by kernel_rfl
theorem un6Draw (k : Nat) (ops : Array Oper) (s : St) : drawE E0 (callN E0 k) 6 7 ops s = match opSteps E0 (callN E0 k) 6 ops ops.toList s with | some (.norm, s') => some (.norm, s') | _ => drawP E0 (callN E0 k) 6 7 ops s := drawS un6_skip un6_flo s
theorem un6Good (k : Nat) (s : ByteArray) (i : Nat) (hi : i + 1 < s.size) (hs : s.size ≤ 140737488355328) (es : List (List PV)) (hes : es.length + 1 ≤ maxB) (p q : Nat) (hp : idx s[i] = p) (hq : idx s[i + 1] = q) (hp' : p < 16) (hq' : q < 16) (g6 g7 g8 g9 g10 g11 g12 g13 g14 g15 g16 g17 g18 g19 g20 g21 g22 g23 g24 g25 g26 g27 g28 g29 g30 g31 g32 g33 g34 g35 g36 g37 g38 : PV) :
    ∃ g6' g7' g8' g9' g10' g11' g12' g13' g14' g15' g16' g17' g18' g19' g20' g21' g22' g23' g24' g25' g26' g27' g28' g29' g30' g31' g32' g33' g34' g35' g36' g37' g38', exec E0 (callN E0 (k + 4)) (drawE E0 (callN E0 (k + 4))) (k + 4) 6 un6 ⟨[.str s, .dead, .str ⟨#[]⟩, .bool false, .ptr 0 0, .int .i64 i, g6, g7, g8, g9, g10, g11, g12, g13, g14, g15, g16, g17, g18, g19, g20, g21, g22, g23, g24, g25, g26, g27, g28, g29, g30, g31, g32, g33, g34, g35, g36, g37, g38, .dead], BB es, []⟩ =
      some (.norm, ⟨[.str s, .dead, .str ⟨#[]⟩, .bool false, .ptr 0 0, .int .i64 (i + 2 : Nat), g6', g7', g8', g9', g10', g11', g12', g13', g14', g15', g16', g17', g18', g19', g20', g21', g22', g23', g24', g25', g26', g27', g28', g29', g30', g31', g32', g33', g34', g35', g36', g37', g38', .dead], BB (es ++ [[.int .u8 (16 * p + q : Nat)]]), []⟩) := by
  have w1 : IntKind.i64.wrap ((i : Int) + 1) = (i : Int) + 1 := wrap_i64 (by omega) (by omega)
  have w3 : IntKind.i64.wrap ((i : Int) + 2) = (i : Int) + 2 := wrap_i64 (by omega) (by omega)
  have hn : ((i : Int) + 1 < 0) = False := eq_false (by omega)
  have hi0 : i < s.size := by omega
  have hw := fun x => c16 k x es hes
  have h1 : ∀ m, callN E0 (k + 4) 15 [.str digitsB, .int .u8 s[i].toNat] m = some (.ret (.int .i64 p), m) := fun m => by rw [← hp]; exact c15 (k + 1) s[i] m
  have h2 : ∀ m, callN E0 (k + 4) 15 [.str digitsB, .int .u8 s[i + 1].toNat] m = some (.ret (.int .i64 q), m) := fun m => by rw [← hq]; exact c15 (k + 1) s[i + 1] m
  clear hp hq
  have ho := shlor p hp' q hq'
  have hp0 : (p : Int) < 0 ↔ False := by simp
  simp only [un6, loops, Tryz.f6, Option.getD_some, List.nil_append, List.append_nil, List.getD_cons_zero, List.cons_append, List.getD_cons_succ]
  simp [execE, opSteps, opStep, wantedP, gop, geval, get, put, putD, ofV, ofV1, kdE, tt, fillP, PV.cells, okc, PV.one, refsE, refsL, splice, mutD, mutbE, acc0E, memE, peqE, litE, keepE, primE, GE, pur, pur1, chunks, builtinP, appendP, elems, szOk, lenP, rd, bin, intBinE, un, sliceQ, sliceP, asNat, extE, extT, extV, entP, lookP, setP, delP, leaveP, resP, frz, frz1, packP, killed0, deferP, eqPtr, eqPtr0, eqV, eqShape, isAggP, List.replicate, natNotNeg, Int.toNat_natCast, finE, un6Draw, hi, hi0, hn, w1]
  simp [execE, opSteps, opStep, wantedP, gop, geval, get, put, putD, ofV, ofV1, kdE, tt, fillP, PV.cells, okc, PV.one, refsE, refsL, splice, mutD, mutbE, acc0E, memE, peqE, litE, keepE, primE, GE, pur, pur1, chunks, builtinP, appendP, elems, szOk, lenP, rd, bin, intBinE, un, sliceQ, sliceP, asNat, extE, extT, extV, entP, lookP, setP, delP, leaveP, resP, frz, frz1, packP, killed0, deferP, eqPtr, eqPtr0, eqV, eqShape, isAggP, List.replicate, natNotNeg, Int.toNat_natCast, finE, h1]
  simp [execE, opSteps, opStep, wantedP, gop, geval, get, put, putD, ofV, ofV1, kdE, tt, fillP, PV.cells, okc, PV.one, refsE, refsL, splice, mutD, mutbE, acc0E, memE, peqE, litE, keepE, primE, GE, pur, pur1, chunks, builtinP, appendP, elems, szOk, lenP, rd, bin, intBinE, un, sliceQ, sliceP, asNat, extE, extT, extV, entP, lookP, setP, delP, leaveP, resP, frz, frz1, packP, killed0, deferP, eqPtr, eqPtr0, eqV, eqShape, isAggP, List.replicate, natNotNeg, Int.toNat_natCast, finE, hi, hn, w1, h2]
  simp [execE, opSteps, opStep, wantedP, gop, geval, get, put, putD, ofV, ofV1, kdE, tt, fillP, PV.cells, okc, PV.one, refsE, refsL, splice, mutD, mutbE, acc0E, memE, peqE, litE, keepE, primE, GE, pur, pur1, chunks, builtinP, appendP, elems, szOk, lenP, rd, bin, intBinE, un, sliceQ, sliceP, asNat, extE, extT, extV, entP, lookP, setP, delP, leaveP, resP, frz, frz1, packP, killed0, deferP, eqPtr, eqPtr0, eqV, eqShape, isAggP, List.replicate, natNotNeg, Int.toNat_natCast, finE, w3, hw]
  exact congrArg _ (by rw [ho]; simp)
theorem un6BadA (k : Nat) (s : ByteArray) (i : Nat) (hi : i + 1 < s.size) (hs : s.size ≤ 140737488355328) (m : Mem) (hp : idx s[i] = -1) (g6 g7 g8 g9 g10 g11 g12 g13 g14 g15 g16 g17 g18 g19 g20 g21 g22 g23 g24 g25 g26 g27 g28 g29 g30 g31 g32 g33 g34 g35 g36 g37 g38 : PV) :
    ∃ g6' g7' g8' g9' g10' g11' g12' g13' g14' g15' g16' g17' g18' g19' g20' g21' g22' g23' g24' g25' g26' g27' g28' g29' g30' g31' g32' g33' g34' g35' g36' g37' g38', exec E0 (callN E0 (k + 4)) (drawE E0 (callN E0 (k + 4))) (k + 4) 6 un6 ⟨[.str s, .dead, .str ⟨#[]⟩, .bool false, .ptr 0 0, .int .i64 i, g6, g7, g8, g9, g10, g11, g12, g13, g14, g15, g16, g17, g18, g19, g20, g21, g22, g23, g24, g25, g26, g27, g28, g29, g30, g31, g32, g33, g34, g35, g36, g37, g38, .dead], m, []⟩ =
      some (.ret, ⟨[.str s, .dead, .str ⟨#[]⟩, .bool false, .ptr 0 0, .int .i64 i, g6', g7', g8', g9', g10', g11', g12', g13', g14', g15', g16', g17', g18', g19', g20', g21', g22', g23', g24', g25', g26', g27', g28', g29', g30', g31', g32', g33', g34', g35', g36', g37', g38', .dead], m, []⟩) := by
  have w1 : IntKind.i64.wrap ((i : Int) + 1) = (i : Int) + 1 := wrap_i64 (by omega) (by omega)
  have hn : ((i : Int) + 1 < 0) = False := eq_false (by omega)
  have hi0 : i < s.size := by omega
  have h1 : ∀ m, callN E0 (k + 4) 15 [.str digitsB, .int .u8 s[i].toNat] m = some (.ret (.int .i64 (-1)), m) := fun m => by rw [← hp]; exact c15 (k + 1) s[i] m
  have h2 : ∀ m, callN E0 (k + 4) 15 [.str digitsB, .int .u8 s[i + 1].toNat] m = some (.ret (.int .i64 (idx s[i + 1])), m) := fun m => c15 (k + 1) s[i + 1] m
  generalize idx s[i + 1] = Q at h2
  clear hp
  simp only [un6, loops, Tryz.f6, Option.getD_some, List.nil_append, List.append_nil, List.getD_cons_zero, List.cons_append, List.getD_cons_succ]
  simp [execE, opSteps, opStep, wantedP, gop, geval, get, put, putD, ofV, ofV1, kdE, tt, fillP, PV.cells, okc, PV.one, refsE, refsL, splice, mutD, mutbE, acc0E, memE, peqE, litE, keepE, primE, GE, pur, pur1, chunks, builtinP, appendP, elems, szOk, lenP, rd, bin, intBinE, un, sliceQ, sliceP, asNat, extE, extT, extV, entP, lookP, setP, delP, leaveP, resP, frz, frz1, packP, killed0, deferP, eqPtr, eqPtr0, eqV, eqShape, isAggP, List.replicate, natNotNeg, Int.toNat_natCast, finE, un6Draw, hi, hi0, hn, w1]
  simp [execE, opSteps, opStep, wantedP, gop, geval, get, put, putD, ofV, ofV1, kdE, tt, fillP, PV.cells, okc, PV.one, refsE, refsL, splice, mutD, mutbE, acc0E, memE, peqE, litE, keepE, primE, GE, pur, pur1, chunks, builtinP, appendP, elems, szOk, lenP, rd, bin, intBinE, un, sliceQ, sliceP, asNat, extE, extT, extV, entP, lookP, setP, delP, leaveP, resP, frz, frz1, packP, killed0, deferP, eqPtr, eqPtr0, eqV, eqShape, isAggP, List.replicate, natNotNeg, Int.toNat_natCast, finE, h1]
  simp [execE, opSteps, opStep, wantedP, gop, geval, get, put, putD, ofV, ofV1, kdE, tt, fillP, PV.cells, okc, PV.one, refsE, refsL, splice, mutD, mutbE, acc0E, memE, peqE, litE, keepE, primE, GE, pur, pur1, chunks, builtinP, appendP, elems, szOk, lenP, rd, bin, intBinE, un, sliceQ, sliceP, asNat, extE, extT, extV, entP, lookP, setP, delP, leaveP, resP, frz, frz1, packP, killed0, deferP, eqPtr, eqPtr0, eqV, eqShape, isAggP, List.replicate, natNotNeg, Int.toNat_natCast, finE, hi, hn, w1, h2]
theorem un6BadB (k : Nat) (s : ByteArray) (i : Nat) (hi : i + 1 < s.size) (hs : s.size ≤ 140737488355328) (m : Mem) (p : Nat) (hp : idx s[i] = p) (hq : idx s[i + 1] = -1) (g6 g7 g8 g9 g10 g11 g12 g13 g14 g15 g16 g17 g18 g19 g20 g21 g22 g23 g24 g25 g26 g27 g28 g29 g30 g31 g32 g33 g34 g35 g36 g37 g38 : PV) :
    ∃ g6' g7' g8' g9' g10' g11' g12' g13' g14' g15' g16' g17' g18' g19' g20' g21' g22' g23' g24' g25' g26' g27' g28' g29' g30' g31' g32' g33' g34' g35' g36' g37' g38', exec E0 (callN E0 (k + 4)) (drawE E0 (callN E0 (k + 4))) (k + 4) 6 un6 ⟨[.str s, .dead, .str ⟨#[]⟩, .bool false, .ptr 0 0, .int .i64 i, g6, g7, g8, g9, g10, g11, g12, g13, g14, g15, g16, g17, g18, g19, g20, g21, g22, g23, g24, g25, g26, g27, g28, g29, g30, g31, g32, g33, g34, g35, g36, g37, g38, .dead], m, []⟩ =
      some (.ret, ⟨[.str s, .dead, .str ⟨#[]⟩, .bool false, .ptr 0 0, .int .i64 i, g6', g7', g8', g9', g10', g11', g12', g13', g14', g15', g16', g17', g18', g19', g20', g21', g22', g23', g24', g25', g26', g27', g28', g29', g30', g31', g32', g33', g34', g35', g36', g37', g38', .dead], m, []⟩) := by
  have w1 : IntKind.i64.wrap ((i : Int) + 1) = (i : Int) + 1 := wrap_i64 (by omega) (by omega)
  have hn : ((i : Int) + 1 < 0) = False := eq_false (by omega)
  have hi0 : i < s.size := by omega
  have h1 : ∀ m, callN E0 (k + 4) 15 [.str digitsB, .int .u8 s[i].toNat] m = some (.ret (.int .i64 p), m) := fun m => by rw [← hp]; exact c15 (k + 1) s[i] m
  have h2 : ∀ m, callN E0 (k + 4) 15 [.str digitsB, .int .u8 s[i + 1].toNat] m = some (.ret (.int .i64 (-1)), m) := fun m => by rw [← hq]; exact c15 (k + 1) s[i + 1] m
  clear hp hq
  simp only [un6, loops, Tryz.f6, Option.getD_some, List.nil_append, List.append_nil, List.getD_cons_zero, List.cons_append, List.getD_cons_succ]
  simp [execE, opSteps, opStep, wantedP, gop, geval, get, put, putD, ofV, ofV1, kdE, tt, fillP, PV.cells, okc, PV.one, refsE, refsL, splice, mutD, mutbE, acc0E, memE, peqE, litE, keepE, primE, GE, pur, pur1, chunks, builtinP, appendP, elems, szOk, lenP, rd, bin, intBinE, un, sliceQ, sliceP, asNat, extE, extT, extV, entP, lookP, setP, delP, leaveP, resP, frz, frz1, packP, killed0, deferP, eqPtr, eqPtr0, eqV, eqShape, isAggP, List.replicate, natNotNeg, Int.toNat_natCast, finE, un6Draw, hi, hi0, hn, w1]
  simp [execE, opSteps, opStep, wantedP, gop, geval, get, put, putD, ofV, ofV1, kdE, tt, fillP, PV.cells, okc, PV.one, refsE, refsL, splice, mutD, mutbE, acc0E, memE, peqE, litE, keepE, primE, GE, pur, pur1, chunks, builtinP, appendP, elems, szOk, lenP, rd, bin, intBinE, un, sliceQ, sliceP, asNat, extE, extT, extV, entP, lookP, setP, delP, leaveP, resP, frz, frz1, packP, killed0, deferP, eqPtr, eqPtr0, eqV, eqShape, isAggP, List.replicate, natNotNeg, Int.toNat_natCast, finE, h1]
  simp [execE, opSteps, opStep, wantedP, gop, geval, get, put, putD, ofV, ofV1, kdE, tt, fillP, PV.cells, okc, PV.one, refsE, refsL, splice, mutD, mutbE, acc0E, memE, peqE, litE, keepE, primE, GE, pur, pur1, chunks, builtinP, appendP, elems, szOk, lenP, rd, bin, intBinE, un, sliceQ, sliceP, asNat, extE, extT, extV, entP, lookP, setP, delP, leaveP, resP, frz, frz1, packP, killed0, deferP, eqPtr, eqPtr0, eqV, eqShape, isAggP, List.replicate, natNotNeg, Int.toNat_natCast, finE, hi, hn, w1, h2]
theorem un6Done (k : Nat) (s : ByteArray) (m : Mem) (g6 g7 g8 g9 g10 g11 g12 g13 g14 g15 g16 g17 g18 g19 g20 g21 g22 g23 g24 g25 g26 g27 g28 g29 g30 g31 g32 g33 g34 g35 g36 g37 g38 : PV) :
    ∃ g6' g7' g8' g9' g10' g11' g12' g13' g14' g15' g16' g17' g18' g19' g20' g21' g22' g23' g24' g25' g26' g27' g28' g29' g30' g31' g32' g33' g34' g35' g36' g37' g38', exec E0 (callN E0 (k + 4)) (drawE E0 (callN E0 (k + 4))) (k + 4) 6 un6 ⟨[.str s, .dead, .str ⟨#[]⟩, .bool false, .ptr 0 0, .int .i64 s.size, g6, g7, g8, g9, g10, g11, g12, g13, g14, g15, g16, g17, g18, g19, g20, g21, g22, g23, g24, g25, g26, g27, g28, g29, g30, g31, g32, g33, g34, g35, g36, g37, g38, .dead], m, []⟩ =
      some (.exit 0, ⟨[.str s, .dead, .str ⟨#[]⟩, .bool false, .ptr 0 0, .int .i64 s.size, g6', g7', g8', g9', g10', g11', g12', g13', g14', g15', g16', g17', g18', g19', g20', g21', g22', g23', g24', g25', g26', g27', g28', g29', g30', g31', g32', g33', g34', g35', g36', g37', g38', .dead], m, []⟩) := by
  simp only [un6, loops, Tryz.f6, Option.getD_some, List.nil_append, List.append_nil, List.getD_cons_zero, List.cons_append, List.getD_cons_succ]
  simp [execE, opSteps, opStep, wantedP, gop, geval, get, put, putD, ofV, ofV1, kdE, tt, fillP, PV.cells, okc, PV.one, refsE, refsL, splice, mutD, mutbE, acc0E, memE, peqE, litE, keepE, primE, GE, pur, pur1, chunks, builtinP, appendP, elems, szOk, lenP, rd, bin, intBinE, un, sliceQ, sliceP, asNat, extE, extT, extV, entP, lookP, setP, delP, leaveP, resP, frz, frz1, packP, killed0, deferP, eqPtr, eqPtr0, eqV, eqShape, isAggP, List.replicate, natNotNeg, Int.toNat_natCast, finE]
theorem idx_all : ∀ n, n < 256 → (idx (UInt8.ofNat n) = -1 ∧ ∀ p, p < 16 → hx p ≠ UInt8.ofNat n) ∨ (0 ≤ idx (UInt8.ofNat n) ∧ idx (UInt8.ofNat n) < 16 ∧ hx (idx (UInt8.ofNat n)).toNat = UInt8.ofNat n) := by decide +kernel
theorem idx_hx : ∀ p : Nat, p < 16 → idx (hx p) = (p : Int) := by decide +kernel
theorem idx_cases (b : UInt8) : (idx b = -1 ∧ ∀ p : Nat, p < 16 → hx p ≠ b) ∨ ∃ p : Nat, p < 16 ∧ idx b = (p : Int) ∧ hx p = b := by
  have h := idx_all b.toNat b.toNat_lt
  have hb : UInt8.ofNat b.toNat = b := by simp
  rw [hb] at h
  rcases h with h | ⟨h0, h1, h2⟩
  · exact Or.inl h
  · exact Or.inr ⟨(idx b).toNat, by omega, by omega, h2⟩
def uP : List UInt8 → Option (List UInt8)
  | a :: c :: r => if idx a = -1 ∨ idx c = -1 then none else (uP r).map (UInt8.ofNat (16 * (idx a).toNat + (idx c).toNat) :: ·)
  | _ => some []
theorem un6Loop (k : Nat) (s : ByteArray) (hs : s.size ≤ maxB) : ∀ (j i : Nat) (es : List (List PV)), i + 2 * j = s.size → es.length ≤ i → ∀ n, j + 1 ≤ n → ∀ (g6 g7 g8 g9 g10 g11 g12 g13 g14 g15 g16 g17 g18 g19 g20 g21 g22 g23 g24 g25 g26 g27 g28 g29 g30 g31 g32 g33 g34 g35 g36 g37 g38 : PV),
    (∃ l, uP (s.data.toList.drop i) = some l ∧ ∃ g6' g7' g8' g9' g10' g11' g12' g13' g14' g15' g16' g17' g18' g19' g20' g21' g22' g23' g24' g25' g26' g27' g28' g29' g30' g31' g32' g33' g34' g35' g36' g37' g38', iter (exec E0 (callN E0 (k + 4)) (drawE E0 (callN E0 (k + 4))) (k + 4) 6 un6) n ⟨[.str s, .dead, .str ⟨#[]⟩, .bool false, .ptr 0 0, .int .i64 i, g6, g7, g8, g9, g10, g11, g12, g13, g14, g15, g16, g17, g18, g19, g20, g21, g22, g23, g24, g25, g26, g27, g28, g29, g30, g31, g32, g33, g34, g35, g36, g37, g38, .dead], BB es, []⟩ =
      some (.exit 0, ⟨[.str s, .dead, .str ⟨#[]⟩, .bool false, .ptr 0 0, .int .i64 s.size, g6', g7', g8', g9', g10', g11', g12', g13', g14', g15', g16', g17', g18', g19', g20', g21', g22', g23', g24', g25', g26', g27', g28', g29', g30', g31', g32', g33', g34', g35', g36', g37', g38', .dead], BB (es ++ l.map byteP), []⟩)) ∨
    (uP (s.data.toList.drop i) = none ∧ ∃ es' i', ∃ g6' g7' g8' g9' g10' g11' g12' g13' g14' g15' g16' g17' g18' g19' g20' g21' g22' g23' g24' g25' g26' g27' g28' g29' g30' g31' g32' g33' g34' g35' g36' g37' g38', iter (exec E0 (callN E0 (k + 4)) (drawE E0 (callN E0 (k + 4))) (k + 4) 6 un6) n ⟨[.str s, .dead, .str ⟨#[]⟩, .bool false, .ptr 0 0, .int .i64 i, g6, g7, g8, g9, g10, g11, g12, g13, g14, g15, g16, g17, g18, g19, g20, g21, g22, g23, g24, g25, g26, g27, g28, g29, g30, g31, g32, g33, g34, g35, g36, g37, g38, .dead], BB es, []⟩ =
      some (.ret, ⟨[.str s, .dead, .str ⟨#[]⟩, .bool false, .ptr 0 0, i', g6', g7', g8', g9', g10', g11', g12', g13', g14', g15', g16', g17', g18', g19', g20', g21', g22', g23', g24', g25', g26', g27', g28', g29', g30', g31', g32', g33', g34', g35', g36', g37', g38', .dead], BB es', []⟩))
  | 0, i, es, hj, hl, n, hn, g6, g7, g8, g9, g10, g11, g12, g13, g14, g15, g16, g17, g18, g19, g20, g21, g22, g23, g24, g25, g26, g27, g28, g29, g30, g31, g32, g33, g34, g35, g36, g37, g38 => by
    obtain ⟨n, rfl⟩ : ∃ m, n = m + 1 := ⟨n - 1, by omega⟩
    obtain rfl : i = s.size := by omega
    obtain ⟨g6', g7', g8', g9', g10', g11', g12', g13', g14', g15', g16', g17', g18', g19', g20', g21', g22', g23', g24', g25', g26', g27', g28', g29', g30', g31', g32', g33', g34', g35', g36', g37', g38', h⟩ := un6Done k s (BB es) g6 g7 g8 g9 g10 g11 g12 g13 g14 g15 g16 g17 g18 g19 g20 g21 g22 g23 g24 g25 g26 g27 g28 g29 g30 g31 g32 g33 g34 g35 g36 g37 g38
    have hd : s.data.toList.drop s.size = [] := List.drop_of_length_le (by rw [Array.length_toList]; exact Nat.le_refl _)
    refine Or.inl ⟨[], by rw [hd]; rfl, g6', g7', g8', g9', g10', g11', g12', g13', g14', g15', g16', g17', g18', g19', g20', g21', g22', g23', g24', g25', g26', g27', g28', g29', g30', g31', g32', g33', g34', g35', g36', g37', g38', ?_⟩
    rw [iter, h]
    simp
  | j + 1, i, es, hj, hl, n, hn, g6, g7, g8, g9, g10, g11, g12, g13, g14, g15, g16, g17, g18, g19, g20, g21, g22, g23, g24, g25, g26, g27, g28, g29, g30, g31, g32, g33, g34, g35, g36, g37, g38 => by
    obtain ⟨n, rfl⟩ : ∃ m, n = m + 1 := ⟨n - 1, by omega⟩
    have hs' : s.size ≤ 140737488355328 := hs
    have hi' : i + 1 < s.size := by omega
    rw [drop2 s i hi', uP]
    rcases idx_cases s[i] with ⟨ha, _⟩ | ⟨p, hp, ha, _⟩
    · obtain ⟨g6', g7', g8', g9', g10', g11', g12', g13', g14', g15', g16', g17', g18', g19', g20', g21', g22', g23', g24', g25', g26', g27', g28', g29', g30', g31', g32', g33', g34', g35', g36', g37', g38', h⟩ := un6BadA k s i hi' hs' (BB es) ha g6 g7 g8 g9 g10 g11 g12 g13 g14 g15 g16 g17 g18 g19 g20 g21 g22 g23 g24 g25 g26 g27 g28 g29 g30 g31 g32 g33 g34 g35 g36 g37 g38
      refine Or.inr ⟨by rw [if_pos (Or.inl ha)], es, .int .i64 i, g6', g7', g8', g9', g10', g11', g12', g13', g14', g15', g16', g17', g18', g19', g20', g21', g22', g23', g24', g25', g26', g27', g28', g29', g30', g31', g32', g33', g34', g35', g36', g37', g38', ?_⟩
      rw [iter, h]
    · rcases idx_cases s[i + 1] with ⟨hc, _⟩ | ⟨q, hq, hc, _⟩
      · obtain ⟨g6', g7', g8', g9', g10', g11', g12', g13', g14', g15', g16', g17', g18', g19', g20', g21', g22', g23', g24', g25', g26', g27', g28', g29', g30', g31', g32', g33', g34', g35', g36', g37', g38', h⟩ := un6BadB k s i hi' hs' (BB es) p ha hc g6 g7 g8 g9 g10 g11 g12 g13 g14 g15 g16 g17 g18 g19 g20 g21 g22 g23 g24 g25 g26 g27 g28 g29 g30 g31 g32 g33 g34 g35 g36 g37 g38
        refine Or.inr ⟨by rw [if_pos (Or.inr hc)], es, .int .i64 i, g6', g7', g8', g9', g10', g11', g12', g13', g14', g15', g16', g17', g18', g19', g20', g21', g22', g23', g24', g25', g26', g27', g28', g29', g30', g31', g32', g33', g34', g35', g36', g37', g38', ?_⟩
        rw [iter, h]
      · obtain ⟨g6', g7', g8', g9', g10', g11', g12', g13', g14', g15', g16', g17', g18', g19', g20', g21', g22', g23', g24', g25', g26', g27', g28', g29', g30', g31', g32', g33', g34', g35', g36', g37', g38', h⟩ := un6Good k s i hi' hs' es (by unfold maxB at *; omega) p q ha hc hp hq g6 g7 g8 g9 g10 g11 g12 g13 g14 g15 g16 g17 g18 g19 g20 g21 g22 g23 g24 g25 g26 g27 g28 g29 g30 g31 g32 g33 g34 g35 g36 g37 g38
        have hneg : ¬ (idx s[i] = -1 ∨ idx s[i + 1] = -1) := by rw [ha, hc]; omega
        rw [iter, h, if_neg hneg, ha, hc]
        simp only [Int.toNat_natCast]
        have hby : [[PV.int .u8 ((16 * p + q : Nat) : Int)]] = [UInt8.ofNat (16 * p + q)].map byteP := by
          have : (UInt8.ofNat (16 * p + q)).toNat = 16 * p + q := by
            rw [UInt8.toNat_ofNat']; exact Nat.mod_eq_of_lt (by omega)
          simp only [List.map, byteP, this]
        rcases un6Loop k s hs j (i + 2) (es ++ [[PV.int .u8 ((16 * p + q : Nat) : Int)]]) (by omega) (by simp; omega) n (by omega) g6' g7' g8' g9' g10' g11' g12' g13' g14' g15' g16' g17' g18' g19' g20' g21' g22' g23' g24' g25' g26' g27' g28' g29' g30' g31' g32' g33' g34' g35' g36' g37' g38' with ⟨l, hl, h6', h7', h8', h9', h10', h11', h12', h13', h14', h15', h16', h17', h18', h19', h20', h21', h22', h23', h24', h25', h26', h27', h28', h29', h30', h31', h32', h33', h34', h35', h36', h37', h38', h'⟩ | ⟨hl, es', i', h6', h7', h8', h9', h10', h11', h12', h13', h14', h15', h16', h17', h18', h19', h20', h21', h22', h23', h24', h25', h26', h27', h28', h29', h30', h31', h32', h33', h34', h35', h36', h37', h38', h'⟩
        · refine Or.inl ⟨_ :: l, by rw [hl]; rfl, h6', h7', h8', h9', h10', h11', h12', h13', h14', h15', h16', h17', h18', h19', h20', h21', h22', h23', h24', h25', h26', h27', h28', h29', h30', h31', h32', h33', h34', h35', h36', h37', h38', ?_⟩
          rw [h', hby]
          simp
        · refine Or.inr ⟨by rw [hl]; rfl, es', i', h6', h7', h8', h9', h10', h11', h12', h13', h14', h15', h16', h17', h18', h19', h20', h21', h22', h23', h24', h25', h26', h27', h28', h29', h30', h31', h32', h33', h34', h35', h36', h37', h38', ?_⟩
          rw [h']
end Go.Gm
