/- The ghost machine, part 7: more operations that compute a value. -/
import Derived.Test.YtnfbfcheipjonaaGreatDoorGm6
set_option linter.unusedSimpArgs false
set_option linter.unusedVariables false
namespace Go.Gm
variable {P : Program}
section
variable {σ : Sig} {m : Mem} {w : World} {ρ : Operand → PV} {ν : Operand → Value} {A : Ann} {f : FuncId} {o : Oper}

/-- Zero cells, so many times. -/
theorem zeros_row {z : Value} (n sz : Nat) (hz : (z.cells.toList.map ofV1).length = sz) :
    Row σ (List.replicate n (z.cells.toList.map ofV1)).flatten ((Array.range (n * sz)).map (fun i => (if n * sz = 0 then #[] else z.cells)[i % (if n * sz = 0 then #[] else z.cells).size]!)) := by
  refine ⟨by simp at hz; simp [hz], fun j p v a b => ?_⟩
  have hj : j < n * sz := by
    have := (Array.getElem?_eq_some_iff.1 b).1
    simpa using this
  have h0 : ¬ n * sz = 0 := by omega
  rw [if_neg h0] at b
  have hsz : z.cells.size = sz := by simpa using hz
  have hpos : 0 < sz := by rcases Nat.eq_zero_or_pos sz with h | h; (subst h; omega); exact h
  rw [flat_replicate _ _ _ (by rw [hz]; exact hj), hz, List.getElem?_map] at a
  obtain ⟨x, hx, rfl⟩ := Option.map_eq_some_iff.1 a
  rw [Array.getElem?_map, Array.getElem?_range, if_pos hj] at b
  simp at b hx
  rw [hsz, getElem!_pos z.cells (j % sz) (by rw [hsz]; exact Nat.mod_lt _ hpos)] at b
  rw [Array.getElem?_eq_getElem (by rw [hsz]; exact Nat.mod_lt _ hpos)] at hx
  obtain rfl := Option.some.inj hx
  subst b
  exact .ofV1 _

/-- A literal's cells as an immutable slice. -/
theorem Step.lit (hs : Sim σ m w) {cs ds : List PV} {vs : Array Value} (hrow : Row σ cs vs) (hd : pur m cs = some ds) {len sz : Nat} (hl : cs.length = len * sz) (e : TypeId) :
    Step σ w m (.sl true sz (chunks sz ds len)) (σ.imm w.heap.size vs) { w with heap := w.heap.push (.cells vs e) } (.slice (some ⟨w.heap.size, 0, none⟩) len len) := by
  obtain ⟨h1, h2⟩ := pur_sound hs hd
  refine ⟨Ext.imm hs vs, Frm.push _, hs.imm vs e, ?_⟩
  have hlen := chunks_length sz len ds
  have hcell : ∀ (i : Nat) (e : List PV) (j : Nat) (p : PV), (chunks sz ds len)[i]? = some e → e[j]? = some p → ∃ u, vs[i * sz + j]? = some u ∧ refs p = [] ∧ VR σ p u := by
    intro i e j p a b
    obtain ⟨hi, hj, hp⟩ := chunks_cell a b
    obtain ⟨q, hq, hpq⟩ := h2 _ p hp
    obtain ⟨g1, g2, g3⟩ := pur1_sound hs hpq
    have hlt : i * sz + j < vs.size := by rw [← hrow.1]; exact (List.getElem?_eq_some_iff.1 hq).1
    exact ⟨vs[i * sz + j], by simp [hlt], g1, g3 _ (hrow.2 _ q _ hq (by simp [hlt]))⟩
  have := VR.sl (σ := σ.imm w.heap.size vs) (full := true) (sz := sz) (es := chunks sz ds len) (rb := w.heap.size) (q := 0) (c := len) (fun i j => vs.getD (i * sz + j) undef)
    (fun i e a => chunks_size (by rw [h1, hl]; exact Nat.le_refl _) (List.mem_of_getElem? a))
    (fun i e j p a b => by
      obtain ⟨u, hu, _⟩ := hcell i e j p a b
      simp only [Sig.imm, if_true, Nat.zero_add, hu, Array.getD_eq_getD_getElem?, Option.getD_some])
    (fun i e j p a b => by obtain ⟨u, _, hr, _⟩ := hcell i e j p a b; exact hr)
    (fun i e j p a b => by
      obtain ⟨u, hu, _, hr⟩ := hcell i e j p a b
      simp only [Array.getD_eq_getD_getElem?, hu, Option.getD_some]
      exact hr.mono (Ext.imm hs vs))
    (by rw [hlen]; exact Nat.le_refl _) (fun _ => hlen.symm)
  rwa [hlen] at this

theorem op_buildSlice (hs : Sim σ m w) (hρ : ∀ x, VR σ (ρ x) (ν x)) {t : TypeId} {len : Nat} {parts : Array (Nat × Operand)} (ho : o.op = .buildSlice t len parts) {p : PV} {m' : Mem} (h : gop P A f ρ o m = some (.val p m')) :
    ValOK σ w ((execOp ν o).run P w) p m' := by
  simp only [gop, ho] at h
  have hparts : ∀ (g : Operand → Value), (parts.map fun x => (x.1, g x.2)).toList = parts.toList.map fun x => (x.1, g x.2) := by intro g; simp
  split at h
  · rename_i e hk
    obtain ⟨i, hi, hik⟩ := kd_spec hk
    obtain ⟨inf, d, zv, h1, h2, h3, _⟩ := ti_spec hi
    obtain rfl := tk_slice (h3.symm.trans hik)
    split at h
    · rename_i j hj
      obtain ⟨inf', d', zv', g1, g2, g3, g4, _, _, g7, g8⟩ := ti_spec hj
      split at h
      · rename_i hc
        obtain ⟨c1, c2⟩ := hc
        rw [g8] at c2
        split at h
        · rename_i cs hcs
          rw [g8] at hcs
          obtain ⟨vs, hf, hrow⟩ := fill_sound hs hρ (place' := fun i => some (i * inf'.size, inf'.size)) (fun i x hx => by rw [← g4]; exact hx) parts.toList _ _ cs (zeros_row (σ := σ) len j.size c2) hcs
          have hcl : cs.length = len * j.size := by
            have : ∀ (place : Nat → Option (Nat × Nat)) (l : List (Nat × PV)) (cs cs' : List PV), fillP m place cs l = some cs' → cs'.length = cs.length := by
              intro place l
              induction l with
              | nil => intro cs cs' e; simp [fillP] at e; rw [e]
              | cons x l ih =>
                intro cs cs' e
                obtain ⟨i, v⟩ := x
                simp only [fillP] at e
                split at e
                · simp at e
                · split at e
                  · rename_i hh
                    rw [ih _ _ e]
                    simp [Gm.splice]; omega
                  · simp at e
            rw [this _ _ _ _ hcs]; simp at c2; simp [c2]
          have hrun : (execOp ν o).run P w = .ok (.value (.slice (some ⟨w.heap.size, 0, none⟩) len len)) { w with heap := w.heap.push (.cells vs e) } := by
            simp only [execOp, ho, Instr.buildSlice, Sem.run_bind, run_underlying h2, Result.andThen_ok, run_sz g1]
            rw [if_neg (by rw [← g4]; omega)]
            rw [g4] at hf
            by_cases h0 : len * inf'.size = 0
            · simp only [h0, if_true] at hf
              simp only [h0, if_true, Sem.run_bind, run_pure', Result.andThen_ok, hparts]
              simp only [hf, Sem.run_bind, newRow, newObj, Sem.run, Result.andThen_ok, run_pure']
            · simp only [if_neg h0] at hf
              simp only [if_neg h0, zeroValue, Sem.run_bind, run_ti g1, g7, run_pure', Result.andThen_ok, hparts]
              simp only [hf, Sem.run_bind, newRow, newObj, Sem.run, Result.andThen_ok, run_pure']
          have asRef : p = .ref m.length j.size 0 len → m' = m ++ [.var ⟨e, true⟩ cs] → ValOK σ w ((execOp ν o).run P w) p m' := by
            rintro rfl rfl
            have st := Step.newVar hs cs vs e hrow.1 hrow.2
            refine ⟨_, _, _, .inl hrun, st.ext, st.frm, st.sim, ?_⟩
            have := VR.ref (σ := σ.add (.var w.heap.size vs.size)) (b := m.length) (sz := j.size) (o := 0) (n := len) (c := len) (rb := w.heap.size) (m := vs.size) (by rw [← hs.len]; exact Sig.add_at) (by rw [← hrow.1, hcl]; simp) (Nat.le_refl _)
            simpa using this
          split at h
          · simp only [Option.some.injEq, Out.val.injEq] at h
            exact asRef h.1.symm h.2.symm
          · split at h
            · rename_i ds hd
              simp only [Option.some.injEq, Out.val.injEq] at h
              obtain ⟨rfl, rfl⟩ := h
              exact ⟨_, _, _, .inl hrun, Step.lit hs hrow hd hcl e⟩
            · split at h
              · simp at h
              simp only [Option.some.injEq, Out.val.injEq] at h
              exact asRef h.1.symm h.2.symm
        · simp at h
      · simp at h
    · simp at h
  · simp at h

theorem splice_le {cs : List PV} {vs : Array Value} (h1 : cs.length ≤ vs.size) (h2 : ∀ (j : Nat) (p : PV) (v : Value), cs[j]? = some p → vs[j]? = some v → VR σ p v) {off : Nat} {ps : List PV} {us : Array Value} (h' : Row σ ps us) (hl : off + ps.length ≤ cs.length) :
    ∀ (j : Nat) (p : PV) (v : Value), (splice cs off ps)[j]? = some p → (vs.toList.take off ++ us.toList ++ vs.toList.drop (off + us.size)).toArray[j]? = some v → VR σ p v := by
  obtain ⟨h3, h4⟩ := h'
  have e1 : (cs.take off).length = off := by simp; omega
  have e2 : (vs.toList.take off).length = off := by simp; omega
  intro j p v a b
  simp only [Gm.splice] at a
  simp only [List.getElem?_toArray, List.append_assoc] at b
  rcases Nat.lt_or_ge j off with hj | hj
  · rw [List.getElem?_append_left (by omega), List.getElem?_take_of_lt hj] at a
    rw [List.getElem?_append_left (by omega), List.getElem?_take_of_lt hj] at b
    exact h2 j p v a (by simpa using b)
  · rw [List.getElem?_append_right (by omega), e1] at a
    rw [List.getElem?_append_right (by omega), e2] at b
    rcases Nat.lt_or_ge (j - off) ps.length with hk | hk
    · rw [List.getElem?_append_left hk] at a
      rw [List.getElem?_append_left (by simp; omega)] at b
      exact h4 _ p v a (by simpa using b)
    · rw [List.getElem?_append_right hk, List.getElem?_drop] at a
      rw [List.getElem?_append_right (by simp; omega), List.getElem?_drop] at b
      refine h2 _ p v a ?_
      rw [← b]; simp [← h3]

theorem op_store (hs : Sim σ m w) (hρ : ∀ x, VR σ (ρ x) (ν x)) {t : TypeId} {a x : Operand} (ho : o.op = .store t a x) {p : PV} {m' : Mem} (h : gop P A f ρ o m = some (.val p m')) :
    ValOK σ w ((execOp ν o).run P w) p m' := by
  simp only [gop, ho] at h
  split at h
  · rename_i i b off hi hb
    obtain ⟨inf, d, zv, h1, h2, _, h4, _⟩ := ti_spec hi
    split at h
    · rename_i cs hm
      split at h
      · rename_i hc
        obtain ⟨c1, c2, c3⟩ := hc
        simp only [Option.some.injEq, Out.val.injEq] at h
        obtain ⟨rfl, rfl⟩ := h
        have hx := (hρ x).cells (okc_one c3) (okc_live hs c3)
        have ha := hρ a
        rw [hb] at ha
        generalize hva : ν a = va at ha
        cases ha with
        | ptrG e =>
          have := hs.blk _ _ _ e hm
          simp [blkOK] at this
        | ptr e =>
          rename_i rb n
          obtain ⟨c, k1, k2, ⟨k3, k5⟩, k4⟩ := hs.blk _ _ _ e hm
          have hrow : Row σ (ρ x).cells (ν x).cells := ⟨hx.1, hx.2.1⟩
          have hst := run_storeRow (P := P) rb off _ (0, 0) (ν x).cells.toList 0 c w k1 (by simp) (by simp; rw [← hx.1]; omega) hx.2.2
          simp only [Nat.add_zero, Array.length_toList] at hst
          have hrun : (execOp ν o).run P w = .ok .skip (w.setRow rb (c.toList.take off ++ (ν x).cells.toList ++ c.toList.drop (off + (ν x).cells.size)).toArray) := by
            simp only [execOp, ho, Instr.storeAt, Instr.sureAddr, hva, storeVar, Sem.run_bind, run_sz h1, Result.andThen_ok, run_pure']
            rw [if_neg (by rw [← hx.1, c1, h4]; simp)]
            simp only [hst, Result.andThen_ok]
          refine ⟨σ, _, undef, .inr ⟨hrun, rfl⟩, ?_⟩
          refine Step.setVar hs e _ _ _ (setRow_heap w rb c _ _ (0, 0) k1) ?_ ?_ (splice_le (by omega) k4 hrow (by omega)) (fun r hr => setRow_other hr) setRow_size rfl rfl rfl .dead
          · simp; rw [← hx.1]; omega
          · refine ⟨by simp [Gm.splice]; omega, fun hx => ?_⟩
            have := k5 hx
            simp [Gm.splice]; omega
      · simp at h
    · simp at h
  · simp at h

theorem op_nilCheck (hs : Sim σ m w) (hρ : ∀ x, VR σ (ρ x) (ν x)) {x : Operand} (ho : o.op = .nilCheck x) {p : PV} {m' : Mem} (h : gop P A f ρ o m = some (.val p m')) :
    ValOK σ w ((execOp ν o).run P w) p m' := by
  simp only [gop, ho] at h
  have hx := hρ x
  generalize hva : ν x = va at hx
  split at h
  · rename_i b off hb
    split at h
    · rename_i cs hm
      simp only [Option.some.injEq, Out.val.injEq] at h
      obtain ⟨rfl, rfl⟩ := h
      rw [hb] at hx
      cases hx with
      | ptr e => exact .same hs (.ptr e) (by simp [execOp, ho, hva])
      | ptrG e =>
        have := hs.blk _ _ _ e hm
        simp [blkOK] at this
    · simp at h
  all_goals first
    | (simp at h; done)
    | (rename_i hb
       simp only [Option.some.injEq, Out.val.injEq] at h
       obtain ⟨rfl, rfl⟩ := h
       rw [hb] at hx
       cases hx
       first
         | exact .same hs (.iptr _ ‹_› ‹_› ‹_›) (by simp [execOp, ho, hva])
         | exact .same hs (.iface ‹_›) (by simp [execOp, ho, hva])
         | exact .same hs (.fn ‹_› ‹_› ‹_› ‹_›) (by simp [execOp, ho, hva]))

end
end Go.Gm
