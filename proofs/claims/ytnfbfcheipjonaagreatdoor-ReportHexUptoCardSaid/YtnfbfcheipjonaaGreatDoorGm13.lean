/- The ghost machine, part 13: append. -/
import Derived.Test.YtnfbfcheipjonaaGreatDoorGm12
set_option linter.unusedSimpArgs false
set_option linter.unusedVariables false
namespace Go.Gm
variable {P : Program}
section
variable {σ : Sig} {m : Mem} {w : World} {ρ : Operand → PV} {ν : Operand → Value} {A : Ann} {f : FuncId} {o : Oper}

theorem run_choose_cap {need old : Nat} {e : TypeId} (w : World) : ∃ c n, need ≤ c ∧ (choose (.appendCap need old e)).run P w = .ok c { w with drawn := n } := by
  refine ⟨_, w.drawn + 1, ?_, by simp only [choose, Sem.run]; rw [if_neg (by simp [Question.forced])]⟩
  simp [Question.cut]
theorem run_askRoom (n : Nat) (w : World) : (askRoom n).run P w = .ok () w := by
  unfold askRoom; split <;> simp [mark, Sem.run]

structure AppCx (P : Program) (t u e : TypeId) (inf : TypeInfo) (z : Value) : Prop where
  ht : P.underlying t = some (.slice e)
  hu : (∃ e', P.underlying u = some (.slice e')) ∨ P.underlying u = some .string
  hi : P.info? e = some inf
  hz : inf.zero = some z

theorem append_room {t u e ty : TypeId} {inf : TypeInfo} {z : Value} (C : AppCx P t u e inf z) {a : Option Addr} {n c k : Nat} {vx : Value} {vs : Array Value}
    (h1 : (Builtin.lenOf vx).run P w = .ok k w) (h2 : (Builtin.firstCells inf.size k vx).run P w = .ok vs w) (h : n + k ≤ c) :
    (Builtin.append_ #[t, u] ty #[.slice a n c, vx]).run P w =
      ((match a with | some ad => storeCells (ad.add (n * inf.size)) vs.toList | none => pure () : Sem Unit).run P w).andThen fun _ w' => .ok (.slice a (n + k) c) w' := by
  unfold Builtin.append_
  rcases C.hu with ⟨e', hu⟩ | hu <;>
  · simp only [List.getElem?_toArray, List.getElem?_cons_zero, List.getElem?_cons_succ, Sem.run_bind, run_underlying C.ht, Result.andThen_ok, run_sz C.hi, run_underlying hu, run_pure']
    simp only [Bool.false_eq_true, if_false, Sem.run_bind, h1, Result.andThen_ok]
    rw [if_pos h]
    simp only [Bool.not_false, if_true, Sem.run_bind, h2, Result.andThen_ok]
    cases a <;> simp

theorem append_grow {t u e ty : TypeId} {inf : TypeInfo} {z : Value} (C : AppCx P t u e inf z) {a : Option Addr} {n c k : Nat} {vx : Value} {vs old : Array Value}
    (h1 : (Builtin.lenOf vx).run P w = .ok k w) (h2 : ∀ w', w'.heap = w.heap → (Builtin.firstCells inf.size k vx).run P w' = .ok vs w') (h3 : ∀ w', w'.heap = w.heap → (Builtin.firstCells inf.size n (.slice a n c)).run P w' = .ok old w')
    (h : ¬ n + k ≤ c) (hb0 : 0 < inf.bytes) (hb : (n + k) * inf.bytes ≤ 140737488355328) :
    ∃ cap d, n + k ≤ cap ∧ (Builtin.append_ #[t, u] ty #[.slice a n c, vx]).run P w =
      .ok (.slice (some ⟨w.heap.size, 0, none⟩) (n + k) cap) { w with drawn := d, heap := w.heap.push (.cells (old ++ vs ++ Builtin.zeroCells z.cells (cap - (n + k))) e) } := by
  obtain ⟨cap, d, hcap, hch⟩ := run_choose_cap (P := P) (need := n + k) (old := c) (e := e) w
  refine ⟨cap, d, hcap, ?_⟩
  have hbig : n + k ≤ 140737488355328 := Nat.le_trans (Nat.le_mul_of_pos_right _ hb0) hb
  have hfit := growslice_fits (need := n + k) (old := c) (bytes := inf.bytes) (by omega) hb
  have hmx : IntKind.i64.max = 9223372036854775807 := by decide
  unfold Builtin.append_
  rcases C.hu with ⟨e', hu⟩ | hu <;>
  · simp only [List.getElem?_toArray, List.getElem?_cons_zero, List.getElem?_cons_succ, Sem.run_bind, run_underlying C.ht, Result.andThen_ok, run_sz C.hi, run_underlying hu, run_pure']
    simp only [Bool.false_eq_true, if_false, Sem.run_bind, h1, Result.andThen_ok]
    rw [if_neg h]
    simp only [Sem.run_bind, run_ti C.hi, Result.andThen_ok, false_or]
    rw [if_neg (by rw [hmx]; omega)]
    simp only [Sem.run_bind, run_ti C.hi, Result.andThen_ok]
    rw [if_neg (by omega)]
    simp only [Sem.run_bind, hch, Result.andThen_ok, run_ti C.hi, run_askRoom, h3 { w with drawn := d } rfl, Bool.not_false, if_true, h2 { w with drawn := d } rfl, zeroValue, C.hz, run_pure', newRow, newObj, Sem.run]

theorem acc_append (hs : Sim σ m w) {b : Nat} {rb : Option Nat} {K : Nat} {i : TI} {es : List (List PV)} (hb : σ.B[b]? = some (.acc rb K i.size es)) {v : Value} (hv : VR σ (.acc b es.length) v) {e t u ty : TypeId} (hi : ti P e = some i) {tt : Option TypeId} (hm : m[b]? = some (.acc tt i.size es)) (htt : tt = none ∨ tt = some e)
    (hby : 0 < i.bytes) (hs0 : 0 < i.size) (hzl : i.zero.length = i.size) (ht : P.underlying t = some (.slice e)) (hu : (∃ e', P.underlying u = some (.slice e')) ∨ P.underlying u = some .string)
    {vx : Value} {ys : List (List PV)} {vs : Array Value} (hE : Elems σ i.size ys vs) (hpure : ∀ (j : Nat) (e : List PV) (k : Nat) (p : PV), ys[j]? = some e → e[k]? = some p → refs p = [])
    (hone : ∀ x ∈ vs.toList, x.oneCell' = true)
    (hx : ∀ w', w'.heap = w.heap → (Builtin.lenOf vx).run P w' = .ok ys.length w' ∧ (Builtin.firstCells i.size ys.length vx).run P w' = .ok vs w') (hbytes : (es.length + ys.length) * i.bytes ≤ maxB) :
    ∃ σ' w' v', (Builtin.append_ #[t, u] ty #[v, vx]).run P w = .ok v' w' ∧ Step σ w (m.set b (.acc tt i.size (es ++ ys))) (.acc b (es ++ ys).length) σ' w' v' := by
  obtain ⟨inf, d, z, g1, g2, g3, g4, g5, _, g7, g8⟩ := ti_spec hi
  have C : AppCx P t u e inf z := ⟨ht, hu, g1, g7⟩
  have hbm : b < m.length := by rw [← hs.len]; exact (List.getElem?_eq_some_iff.1 hb).1
  have hB := hs.blk b _ _ hb hm
  obtain ⟨hx1, hx2⟩ := hx w rfl
  rw [g4] at hx2
  cases hv with
  | acc g e1 h1 h2 h3 h4 h5 h6 h7 =>
    rename_i a c rb' K' sz' es' ra qa
    rw [hb] at e1
    simp only [Option.some.injEq, BK.acc.injEq] at e1
    obtain ⟨rfl, rfl, rfl, rfl⟩ := e1
    have hvr := VR.acc (σ := σ) g hb h1 h2 h3 h4 h5 h6 h7
    have hsnap := (VR.snap hs hm hvr).2
    rw [List.take_length] at hsnap
    obtain ⟨old, hEo, hold⟩ := elems_sl (P := P) hs hsnap
    by_cases hk : ys = []
    · subst hk
      have hv0 : vs = #[] := by
        have := hE.1
        simpa using this
      subst hv0
      refine ⟨σ, w, .slice a es.length c, ?_, ?_⟩
      · rw [append_room C hx1 hx2 (by simpa using h2)]
        cases a <;> rfl
      · have : m.set b (.acc tt i.size (es ++ [])) = m := by
          rw [List.append_nil]
          apply List.ext_getElem?
          intro j
          by_cases hj : b = j
          · subst hj; rw [List.getElem?_set_self hbm, hm]
          · rw [List.getElem?_set_ne hj]
        rw [this, List.append_nil]
        exact .same hs hvr
    · have hyl : 0 < ys.length := List.length_pos_iff.2 hk
      have hv : ∀ (q : Nat) (e : List PV) (j : Nat) (p : PV), (es ++ ys)[q]? = some e → e[j]? = some p → ∀ (c' : Array Value), (∀ (t : Nat) (u : Value), old[t]? = some u → c'[t]? = some u) → (∀ (t : Nat) (u : Value), vs[t]? = some u → c'[es.length * i.size + t]? = some u) →
          ∃ v, c'[q * i.size + j]? = some v ∧ VR σ p v := by
        intro q e j p a b c' hc1 hc2
        rcases Nat.lt_or_ge q es.length with hq | hq
        · rw [List.getElem?_append_left hq] at a
          obtain ⟨u, hu, hr⟩ := hEo.2.2 q e j p a b
          exact ⟨u, hc1 _ _ hu, hr⟩
        · rw [List.getElem?_append_right hq] at a
          obtain ⟨u, hu, hr⟩ := hE.2.2 (q - es.length) e j p a b
          refine ⟨u, ?_, hr⟩
          have := hc2 _ _ hu
          rw [← Nat.add_assoc, ← Nat.add_mul] at this
          rwa [show es.length + (q - es.length) = q by omega] at this
      by_cases hroom : es.length + ys.length ≤ c
      · simp only [blkOK] at hB
        obtain ⟨hB0, _, _, hB1, hB2, hB3⟩ := hB
        have h7' := h7 rfl
        cases rb with
        | none => simp only at h7'; omega
        | some r =>
          simp only at h7' hB3
          obtain ⟨rfl, rfl⟩ := h7'
          obtain ⟨cc, et, fr, k1, k2, k3, k4, k5⟩ := hB3
          have hvl : vs.toList.length = ys.length * i.size := by simpa using hE.1
          have hfit : es.length * i.size + ys.length * i.size ≤ cc.size := by rw [k2, ← Nat.add_mul]; exact Nat.mul_le_mul_right _ hroom
          have hst := run_storeRow (P := P) r (es.length * i.size) et fr vs.toList 0 cc w k1 (by omega) (by rw [hvl]; omega) hone
          simp only [Nat.add_zero] at hst
          have hcc' : ∀ t, (cc.toList.take (es.length * i.size) ++ vs.toList ++ cc.toList.drop (es.length * i.size + vs.toList.length)).toArray[t]? =
              if t < es.length * i.size then cc[t]? else if t < es.length * i.size + vs.size then vs[t - es.length * i.size]? else cc[t]? := by
            intro t
            simp only [List.getElem?_toArray, List.append_assoc]
            have el : (cc.toList.take (es.length * i.size)).length = es.length * i.size := by simp; omega
            split
            · rename_i ht; rw [List.getElem?_append_left (by omega), List.getElem?_take_of_lt ht]; simp
            · rename_i ht
              rw [List.getElem?_append_right (by omega), el]
              split
              · rename_i ht'; rw [List.getElem?_append_left (by simp; omega)]; simp
              · rename_i ht'; rw [List.getElem?_append_right (by simp; omega), List.getElem?_drop]; simp; congr 1; omega
          refine ⟨σ.app b r c i.size (es ++ ys) (cc.toList.take (es.length * i.size) ++ vs.toList ++ cc.toList.drop (es.length * i.size + vs.toList.length)).toArray, w.setRow r (cc.toList.take (es.length * i.size) ++ vs.toList ++ cc.toList.drop (es.length * i.size + vs.toList.length)).toArray, .slice (some ⟨r, 0, none⟩) (es ++ ys).length c, ?_, ?_⟩
          · rw [append_room C hx1 hx2 hroom]
            rw [← g4]
            simp only [addr_add, Nat.zero_add, hst, Result.andThen_ok, List.length_append]
          · have hsz : (cc.toList.take (es.length * i.size) ++ vs.toList ++ cc.toList.drop (es.length * i.size + vs.toList.length)).toArray.size = c * i.size := by
              rw [← k2]; simp; have := hE.1; omega
            refine Step.app hs hb r c ys hk _ et fr (.inr rfl) (fun e' he' => by obtain ⟨c9, fr9, q9⟩ := (hB0 e' he').2 r rfl; rw [k1] at q9; simp only [Option.some.injEq, Obj.cells.injEq] at q9; exact q9.2.1) (setRow_heap w r cc _ et fr k1) hsz (by simpa using hroom) k4 hE.2.1 hpure (fun q e j p a b => hv q e j p a b _ (fun t u ht => ?_) (fun t u ht => ?_)) (fun t v ht => ?_)
              (fun r' _ hr' => setRow_other hr') (by rw [setRow_size]; exact Nat.le_refl _) rfl rfl rfl
            · rw [hcc']
              have htl : t < es.length * i.size := by
                have := (Array.getElem?_eq_some_iff.1 ht).1
                rw [hEo.1] at this; exact this
              rw [if_pos htl]
              have hol := (hold w rfl).2
              rw [g4] at hol
              -- the old cells are those of the row
              have : ∀ (t : Nat) (u : Value), old[t]? = some u → cc[t]? = some u := by
                intro t u ht
                have htl : t < es.length * i.size := by
                  have := (Array.getElem?_eq_some_iff.1 ht).1
                  rw [hEo.1] at this; exact this
                have e2 := run_loadCells (P := P) w ⟨r, 0, none⟩ (es.length * i.size) (fun j => cc.getD j undef) (fun j hj => by
                  rw [addr_add, Nat.zero_add, cell_of_heap k1]
                  simp [show j < cc.size by omega])
                simp only [Builtin.firstCells, ← g4, e2, Result.ok.injEq, and_true] at hol
                rw [← hol] at ht
                simp only [List.getElem?_toArray, List.getElem?_map, Option.map_eq_some_iff] at ht
                obtain ⟨x, hx, ht⟩ := ht
                obtain ⟨_, rfl⟩ := List.getElem?_eq_some_iff.1 hx
                rw [← ht]
                simp [show t < cc.size by omega]
              exact this t u ht
            · rw [hcc']
              have htl := (Array.getElem?_eq_some_iff.1 ht).1
              rw [if_neg (by omega), if_pos (by omega)]
              simpa using ht
            · have htl := hs.Ia b r c i.size es hb t v ht
              obtain ⟨c2, et2, fr2, q1, q2⟩ := hs.Ic r t v ht
              rw [k1] at q1
              simp only [Option.some.injEq, Obj.cells.injEq] at q1
              obtain ⟨rfl, rfl, rfl⟩ := q1
              rw [hcc', if_pos htl]; exact q2
      · obtain ⟨cap, dd, hcap, hrun⟩ := append_grow (ty := ty) C hx1 (fun w' hw => by rw [← g4]; exact (hx w' hw).2) (fun w' hw => by rw [← g4]; exact (hold w' hw).2) hroom (by omega) (by rw [← g5]; exact hbytes)
        refine ⟨σ.app b w.heap.size cap i.size (es ++ ys) (old ++ vs ++ Builtin.zeroCells z.cells (cap - (es.length + ys.length))), _, .slice (some ⟨w.heap.size, 0, none⟩) (es ++ ys).length cap, by rw [hrun, List.length_append], ?_⟩
        have hzs : z.cells.size = i.size := by rw [g8] at hzl; simpa using hzl
        refine Step.app hs hb w.heap.size cap ys hk _ e (0, 0) (.inl (Nat.le_refl _)) (fun e' he' => by rcases htt with h | h <;> rw [h] at he' <;> cases he'; rfl) (by simp) ?_ (by simpa using hcap) (by simp) hE.2.1 hpure (fun q e j p a b => hv q e j p a b _ (fun t u ht => ?_) (fun t u ht => ?_)) (fun t v ht => ?_)
          (fun r' hr' _ => heap_push_old hr') (by simp) rfl rfl rfl
        · simp only [Array.size_append, size_zeroCells, hzs, hEo.1, hE.1, ← Nat.add_mul]
          congr 1; omega
        · rw [Array.append_assoc, Array.getElem?_append_left (Array.getElem?_eq_some_iff.1 ht).1]; exact ht
        · rw [Array.append_assoc, Array.getElem?_append_right (by rw [hEo.1]; omega), hEo.1, Nat.add_sub_cancel_left, Array.getElem?_append_left (Array.getElem?_eq_some_iff.1 ht).1]; exact ht
        · have := hs.Ilt ht; omega
end
end Go.Gm
