/- The ghost machine, part 10: indexes, slices, what is made with a length. -/
import Derived.Test.YtnfbfcheipjonaaGreatDoorGm9
set_option linter.unusedSimpArgs false
set_option linter.unusedVariables false
namespace Go.Gm
variable {P : Program}
section
variable {σ : Sig} {m : Mem} {w : World} {ρ : Operand → PV} {ν : Operand → Value} {A : Ann} {f : FuncId} {o : Oper}

/-- An element's address, of elements that never turn. -/
theorem VR.elem {full : Bool} {sz : Nat} {es : List (List PV)} {a : Option Addr} {n c : Nat} (h : VR σ (.sl full sz es) (.slice a n c)) : n = es.length ∧ ∀ i, i < es.length → ∃ rb q, a = some ⟨rb, q, none⟩ ∧ VR σ (.iptr (es.getD i []) 0) (.pointer (some ⟨rb, q + i * sz, none⟩)) := by
  cases h with
  | sl g h1 h2 h3 h4 h5 h6 =>
    rename_i rb q
    refine ⟨rfl, fun i hi => ⟨rb, q, rfl, ?_⟩⟩
    have he : es[i]? = some (es.getD i []) := by simp [List.getD, hi]
    have := VR.iptr (σ := σ) (cs := es.getD i []) (o := 0) (rb := rb) (q := q + i * sz) (g i) (fun j p hp => h2 i _ j p he hp) (fun j p hp => h3 i _ j p he hp) (fun j p hp => h4 i _ j p he hp)
    simpa using this
  | sl0 h1 => exact ⟨rfl, fun i hi => by simp at hi⟩

theorem VR.sl_form {full : Bool} {sz : Nat} {es : List (List PV)} {v : Value} (h : VR σ (.sl full sz es) v) : ∃ a n c, v = .slice a n c := by
  cases h <;> exact ⟨_, _, _, rfl⟩

theorem run_indexSlice {t e : TypeId} {inf : TypeInfo} (h2 : P.underlying t = some (.slice e)) (g1 : P.info? e = some inf) {rb q n c : Nat} {k : IntKind} {i : Int} (h0 : 0 ≤ i) (hn : i < (n : Int)) (w : World) :
    (Instr.indexAt t (.slice (some ⟨rb, q, none⟩) n c) (.int k i)).run P w = .ok (.pointer (some ⟨rb, q + i.toNat * inf.size, none⟩)) w := by
  simp only [Instr.indexAt, asIntOf, Sem.run_bind, run_pure', Result.andThen_ok, run_underlying h2]
  rw [if_pos ⟨h0, hn⟩]
  simp only [Sem.run_bind, run_sz g1, Result.andThen_ok, run_pure', addr_add]
theorem run_indexArr {t e : TypeId} {inf : TypeInfo} {n : Nat} (h2 : P.underlying t = some (.array n e)) (g1 : P.info? e = some inf) {rb q : Nat} {k : IntKind} {i : Int} (h0 : 0 ≤ i) (hn : i < (n : Int)) (w : World) :
    (Instr.indexAt t (.pointer (some ⟨rb, q, none⟩)) (.int k i)).run P w = .ok (.pointer (some ⟨rb, q + i.toNat * inf.size, none⟩)) w := by
  simp only [Instr.indexAt, asIntOf, Sem.run_bind, run_pure', Result.andThen_ok, run_underlying h2, Instr.sureAddr]
  rw [if_pos ⟨h0, hn⟩]
  simp only [Sem.run_bind, run_sz g1, Result.andThen_ok, run_pure', addr_add]

theorem op_indexAddr (hs : Sim σ m w) (hρ : ∀ x, VR σ (ρ x) (ν x)) {t : TypeId} {x ix : Operand} (ho : o.op = .indexAddr t x ix) {p : PV} {m' : Mem} (h : gop P A f ρ o m = some (.val p m')) :
    ValOK σ w ((execOp ν o).run P w) p m' := by
  simp only [gop, ho] at h
  have hx := hρ x
  have hix := hρ ix
  split at h
  · rename_i k i hi0
    rw [hi0] at hix
    generalize hvi : ν ix = vi at hix
    cases hix
    split at h
    · simp at h
    · rename_i h0
      have h0 : 0 ≤ i := by omega
      split at h
      · rename_i e hk
        obtain ⟨it, hi, hik⟩ := kd_spec hk
        obtain ⟨inf, dd, zv, h1, h2, h3, _⟩ := ti_spec hi
        obtain rfl := tk_slice (h3.symm.trans hik)
        split at h
        · simp at h
        · rename_i j hj
          obtain ⟨inf', d', zv', g1, g2, g3, g4, _⟩ := ti_spec hj
          generalize hv : ν x = vx at hx
          split at h
          · rename_i full sz es e1
            rw [e1] at hx
            split at h
            · rename_i hc
              obtain ⟨rfl, hlt⟩ := hc
              simp only [Option.some.injEq, Out.val.injEq] at h
              obtain ⟨rfl, rfl⟩ := h
              obtain ⟨a, n, c, rfl⟩ := hx.sl_form
              obtain ⟨rfl, hel⟩ := hx.elem
              obtain ⟨rb, q, rfl, hvr⟩ := hel i.toNat (by omega)
              refine .same hs hvr ?_
              simp only [execOp, ho, hv, hvi, Sem.run_bind, run_indexSlice h2 g1 h0 hlt, Result.andThen_ok, g4]
              rfl
            · simp at h
          · rename_i b n e1
            rw [e1] at hx
            split at h
            · rename_i sz es hm
              split at h
              · rename_i hc
                obtain ⟨rfl, hlt⟩ := hc
                simp only [Option.some.injEq, Out.val.injEq] at h
                obtain ⟨rfl, rfl⟩ := h
                obtain ⟨hnl, hx'⟩ := hx.snap hs hm
                obtain ⟨a, n', c, rfl⟩ := hx'.sl_form
                obtain ⟨hn', hel⟩ := hx'.elem
                have hl : (es.take n).length = n := by simp; omega
                rw [hl] at hn'
                subst hn'
                obtain ⟨rb, q, rfl, hvr⟩ := hel i.toNat (by rw [hl]; omega)
                have hge : (es.take n').getD i.toNat [] = es.getD i.toNat [] := by
                  simp only [List.getD]; rw [List.getElem?_take_of_lt (by omega)]
                rw [hge] at hvr
                refine .same hs hvr ?_
                simp only [execOp, ho, hv, hvi, Sem.run_bind, run_indexSlice h2 g1 h0 hlt, Result.andThen_ok, g4]
                rfl
              · simp at h
            · simp at h
          · rename_i b sz oo n e1
            rw [e1] at hx
            split at h
            · rename_i cs hm
              split at h
              · rename_i hc
                obtain ⟨rfl, hlt⟩ := hc
                simp only [Option.some.injEq, Out.val.injEq] at h
                obtain ⟨rfl, rfl⟩ := h
                cases hx with
                | ref e2 h4 h5 =>
                  refine .same hs (.ptr e2) ?_
                  simp only [execOp, ho, hv, hvi, Sem.run_bind, run_indexSlice h2 g1 h0 hlt, Result.andThen_ok, g4, Nat.add_mul]
                  rfl
                | refG e2 =>
                  have := hs.blk _ _ _ e2 hm
                  simp [blkOK] at this
              · simp at h
            · simp at h
          · simp at h
      · rename_i n e hk
        obtain ⟨it, hi, hik⟩ := kd_spec hk
        obtain ⟨inf, dd, zv, h1, h2, h3, _⟩ := ti_spec hi
        obtain rfl := tk_array (h3.symm.trans hik)
        split at h
        · simp at h
        · rename_i j hj
          obtain ⟨inf', d', zv', g1, g2, g3, g4, _⟩ := ti_spec hj
          split at h
          · rename_i hlt
            generalize hv : ν x = vx at hx
            split at h
            · rename_i b oo e1
              rw [e1] at hx
              split at h
              · rename_i cs hm
                simp only [Option.some.injEq, Out.val.injEq] at h
                obtain ⟨rfl, rfl⟩ := h
                cases hx with
                | ptr e2 =>
                  refine .same hs (.ptr e2) ?_
                  simp only [execOp, ho, hv, hvi, Sem.run_bind, run_indexArr h2 g1 h0 hlt, Result.andThen_ok, g4]
                  rfl
                | ptrG e2 =>
                  have := hs.blk _ _ _ e2 hm
                  simp [blkOK] at this
              · simp at h
            · rename_i cs oo e1
              rw [e1] at hx
              simp only [Option.some.injEq, Out.val.injEq] at h
              obtain ⟨rfl, rfl⟩ := h
              cases hx with
              | iptr gg q1 q2 q3 =>
                refine .same hs (by have := VR.iptr (σ := σ) (o := oo + i.toNat * j.size) gg q1 q2 q3; rwa [← Nat.add_assoc] at this) ?_
                simp only [execOp, ho, hv, hvi, Sem.run_bind, run_indexArr h2 g1 h0 hlt, Result.andThen_ok, g4]
                rfl
            · simp at h
          · simp at h
      · simp at h
  · simp at h

theorem op_index (hs : Sim σ m w) (hρ : ∀ x, VR σ (ρ x) (ν x)) {t : TypeId} {x ix : Operand} (ho : o.op = .index t x ix) {p : PV} {m' : Mem} (h : gop P A f ρ o m = some (.val p m')) :
    ValOK σ w ((execOp ν o).run P w) p m' := by
  simp only [gop, ho] at h
  have hx := hρ x
  have hix := hρ ix
  split at h
  · rename_i k i hi0
    rw [hi0] at hix
    generalize hvi : ν ix = vi at hix
    cases hix
    split at h
    · simp at h
    · rename_i h0
      have h0 : 0 ≤ i := by omega
      split at h
      · rename_i s hk e1
        obtain ⟨it, hi, hik⟩ := kd_spec hk
        obtain ⟨inf, dd, zv, h1, h2, h3, _⟩ := ti_spec hi
        obtain rfl := tk_string (h3.symm.trans hik)
        rw [e1] at hx
        generalize hv : ν x = vx at hx
        cases hx
        split at h
        · rename_i b hb
          simp only [Option.some.injEq, Out.val.injEq] at h
          obtain ⟨rfl, rfl⟩ := h
          refine .same hs (.int .u8 b.toNat) ?_
          simp only [execOp, ho, hv, hvi, Instr.index, asIntOf, Sem.run_bind, run_pure', Result.andThen_ok, run_underlying h2, if_pos h0, hb]
        · simp at h
      · rename_i n e cs hk e1
        obtain ⟨it, hi, hik⟩ := kd_spec hk
        obtain ⟨inf, dd, zv, h1, h2, h3, _⟩ := ti_spec hi
        obtain rfl := tk_array (h3.symm.trans hik)
        split at h
        · rename_i j hj
          obtain ⟨inf', d', zv', g1, g2, g3, g4, _⟩ := ti_spec hj
          split at h
          · rename_i hlt
            obtain ⟨q, hq, he⟩ := Option.map_eq_some_iff.1 h
            simp only [Out.val.injEq] at he
            obtain ⟨rfl, rfl⟩ := he
            rw [e1] at hx
            obtain ⟨vs, hv, hr⟩ := VR.agg_inv hx
            obtain ⟨v, hrun, hvr⟩ := run_part hj hr hq w
            refine .same hs hvr ?_
            simp only [execOp, ho, hv, hvi, Instr.index, asIntOf, Sem.run_bind, run_pure', Result.andThen_ok, run_underlying h2, if_pos (And.intro h0 hlt), run_sz g1, ← g4, hrun]
          · simp at h
        · simp at h
      · simp at h
  · simp at h

theorem op_makeSlice (hs : Sim σ m w) (hρ : ∀ x, VR σ (ρ x) (ν x)) {t : TypeId} {l c : Operand} (ho : o.op = .makeSlice t l c) {p : PV} {m' : Mem} (h : gop P A f ρ o m = some (.val p m')) :
    ValOK σ w ((execOp ν o).run P w) p m' := by
  simp only [gop, ho] at h
  have hl := hρ l
  have hc := hρ c
  split at h
  · rename_i e hk
    obtain ⟨it, hi, hik⟩ := kd_spec hk
    obtain ⟨inf, dd, zv, h1, h2, h3, _⟩ := ti_spec hi
    obtain rfl := tk_slice (h3.symm.trans hik)
    split at h
    · rename_i j kl a kc b hj e1 e2
      obtain ⟨inf', d', zv', g1, g2, g3, g4, g5, _, g7, g8⟩ := ti_spec hj
      split at h
      · rename_i hcond
        obtain ⟨rfl, h0, hb, hm, hz⟩ := hcond
        simp only [Option.some.injEq, Out.val.injEq] at h
        obtain ⟨rfl, rfl⟩ := h
        rw [e1] at hl; rw [e2] at hc
        generalize hvl : ν l = vl at hl
        generalize hvc : ν c = vc at hc
        cases hl; cases hc
        rw [g8] at hz
        have hrow := zeros_row (σ := σ) a.toNat j.size hz
        have hmk : madeCells zv'.cells (a.toNat * inf'.size) = (Array.range (a.toNat * j.size)).map (fun i => (if a.toNat * j.size = 0 then #[] else zv'.cells)[i % (if a.toNat * j.size = 0 then #[] else zv'.cells).size]!) := by
          rw [g4]
          by_cases hz0 : a.toNat * inf'.size = 0
          · simp [madeCells, hz0]
          · simp [madeCells, hz0]
        have st := Step.newVar hs _ _ e hrow.1 hrow.2
        rw [← hmk] at st
        have hsz : (madeCells zv'.cells (a.toNat * inf'.size)).size = a.toNat * j.size := by simp [madeCells, g4]
        refine ⟨_, _, .slice (some ⟨w.heap.size, 0, none⟩) a.toNat a.toNat, .inl ?_, st.ext, st.frm, ?_, ?_⟩
        · simp only [execOp, ho, hvl, hvc, Sem.run_bind]
          rw [run_make w t e inf' zv' h2 g1 g7 kl kc a a h0 (Int.le_refl _) (by rw [← g5, Int.mul_comm]; omega) hm]
          rfl
        · rw [g8]; exact st.sim
        · have := VR.ref (σ := σ.add (.var w.heap.size (madeCells zv'.cells (a.toNat * inf'.size)).size)) (b := m.length) (sz := j.size) (o := 0) (n := a.toNat) (c := a.toNat) (rb := w.heap.size) (by rw [← hs.len]; exact Sig.add_at) (by rw [hsz]; simp) (Nat.le_refl _)
          simpa using this
      · simp at h
    · simp at h
  · simp at h
end
end Go.Gm
