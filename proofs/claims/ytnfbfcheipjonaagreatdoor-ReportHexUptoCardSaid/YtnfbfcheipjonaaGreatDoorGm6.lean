/- The ghost machine, part 6: one operation that computes a value: what the model does is what the ghost says. -/
import Derived.Test.YtnfbfcheipjonaaGreatDoorGm5
set_option linter.unusedSimpArgs false
set_option linter.unusedVariables false
namespace Go.Gm
variable {P : Program}

def ValOK (σ : Sig) (w : World) (r : Result Next) (p : PV) (m' : Mem) : Prop :=
  ∃ σ' w' v, (r = .ok (.value v) w' ∨ (r = .ok .skip w' ∧ v = undef)) ∧ Step σ w m' p σ' w' v
theorem ValOK.same {σ : Sig} {m : Mem} {w : World} (hs : Sim σ m w) {r : Result Next} {p : PV} {v : Value} (hv : VR σ p v) (hr : r = .ok (.value v) w) : ValOK σ w r p m :=
  ⟨σ, w, v, .inl hr, .same hs hv⟩
/-- Only the count of draws has turned. -/
theorem ValOK.drew {σ : Sig} {m : Mem} {w : World} (hs : Sim σ m w) {r : Result Next} {p : PV} {v : Value} {n : Nat} (hv : VR σ p v) (hr : r = .ok (.value v) { w with drawn := n }) : ValOK σ w r p m :=
  ⟨σ, _, v, .inl hr, .refl _ _, Frm.drew n, hs.drew n, hv⟩

section
variable {σ : Sig} {m : Mem} {w : World} {ρ : Operand → PV} {ν : Operand → Value} {A : Ann} {f : FuncId} {o : Oper}

theorem VR.agg_inv {cs : List PV} {v : Value} (h : VR σ (.agg cs) v) : ∃ vs, v = .agg vs ∧ Row σ cs vs := by
  cases h with
  | agg h1 h2 => exact ⟨_, rfl, h1, h2⟩

theorem op_move (hs : Sim σ m w) (hρ : ∀ x, VR σ (ρ x) (ν x)) {x : Operand} (ho : o.op = .move x) : ValOK σ w ((execOp ν o).run P w) (ρ x) m :=
  .same hs (hρ x) (by simp [execOp, ho])

theorem op_assign (hs : Sim σ m w) (hρ : ∀ x, VR σ (ρ x) (ν x)) {x : Operand} (ho : o.op = .assign x) {p : PV} {m' : Mem} (h : gop P A f ρ o m = some (.val p m')) :
    ValOK σ w ((execOp ν o).run P w) p m' := by
  have hr : (execOp ν o).run P w = .ok (.value (ν x)) w := by simp [execOp, ho]
  simp only [gop, ho] at h
  split at h
  · rename_i e sz hx _
    simp only [Option.some.injEq, Out.val.injEq] at h
    obtain ⟨rfl, rfl⟩ := h
    have hv := hρ x
    rw [hx] at hv
    cases hvx : ν x <;> rw [hvx] at hv <;> cases hv
    obtain ⟨h1, h2⟩ := Step.newAcc0 hs (some e) sz [] (.inr rfl) (by simp) (by simp)
    refine ⟨_, w, _, .inl hr, h1, .refl _ _, h2, ?_⟩
    rw [hvx, ← hs.len]
    exact .acc (rb := none) (K := 0) (sz := sz) (es := []) (ra := 0) (qa := 0) (fun _ _ => undef) Sig.add_at (by simp) (by simp) (by simp) (by simp) (by simp) (by simp) (by simp)
  · simp only [Option.some.injEq, Out.val.injEq] at h
    obtain ⟨rfl, rfl⟩ := h
    exact .same hs (hρ x) hr

theorem op_pick (hs : Sim σ m w) (hρ : ∀ x, VR σ (ρ x) (ν x)) {c a b : Operand} (ho : o.op = .pick c a b) {p : PV} {m' : Mem} (h : gop P A f ρ o m = some (.val p m')) :
    ValOK σ w ((execOp ν o).run P w) p m' := by
  simp only [gop, ho] at h
  split at h
  · rename_i t ht
    simp only [Option.some.injEq, Out.val.injEq] at h
    obtain ⟨rfl, rfl⟩ := h
    have hc := hρ c
    rw [ht] at hc
    cases hv : ν c <;> rw [hv] at hc <;> cases hc
    refine .same hs (v := if t then ν a else ν b) ?_ (by simp [execOp, ho, hv, asBool])
    cases t
    · exact hρ b
    · exact hρ a
  · simp at h

theorem ofV1_row {z : Value} : Row σ (z.cells.toList.map ofV1) z.cells := by
  refine ⟨by simp, fun j p v a b => ?_⟩
  rw [List.getElem?_map] at a
  obtain ⟨x, hx, rfl⟩ := Option.map_eq_some_iff.1 a
  simp at hx
  rw [hx] at b
  obtain rfl := Option.some.inj b
  exact .ofV1 _

theorem op_alloc (hs : Sim σ m w) {e : TypeId} (ho : o.op = .alloc e) {p : PV} {m' : Mem} (h : gop P A f ρ o m = some (.val p m')) : ValOK σ w ((execOp ν o).run P w) p m' := by
  simp only [gop, ho] at h
  split at h
  · rename_i i hi
    obtain ⟨inf, d, z, h1, h2, _, h4, _, _, h7, h8⟩ := ti_spec hi
    split at h
    · simp only [Option.some.injEq, Out.val.injEq] at h
      obtain ⟨rfl, rfl⟩ := h
      rw [h8]
      have hz := ofV1_row (σ := σ) (z := z)
      have st := Step.newVar hs (z.cells.toList.map ofV1) z.cells e hz.1 hz.2
      refine ⟨_, _, _, .inl ?_, st⟩
      simp [execOp, ho, Instr.alloc, zeroValue, run_ti h1, h7, newVar, newRow, newObj, Sem.run]
    · simp at h
  · simp at h

theorem op_box (hs : Sim σ m w) (hρ : ∀ x, VR σ (ρ x) (ν x)) {e : TypeId} {x : Operand} (ho : o.op = .box e x) {p : PV} {m' : Mem} (h : gop P A f ρ o m = some (.val p m')) : ValOK σ w ((execOp ν o).run P w) p m' := by
  simp only [gop, ho] at h
  split at h
  · rename_i hc
    simp only [Option.some.injEq, Out.val.injEq] at h
    obtain ⟨rfl, rfl⟩ := h
    have hx := (hρ x).cells (okc_one hc) (okc_live hs hc)
    have st := Step.newVar hs (ρ x).cells (ν x).cells e hx.1 hx.2.1
    refine ⟨_, _, _, .inl ?_, st⟩
    simp [execOp, ho, Instr.box, newVar, newRow, newObj, Sem.run]
  · simp at h

theorem run_pure' {α : Type} (a : α) (w : World) : (pure a : Sem α).run P w = .ok a w := rfl
theorem fieldsP_spec {fs : List Field} {l : List (Nat × Nat × TypeId)} (h : fieldsP P fs = some l) : ∀ w, (fs.mapM fun f => (do pure (f.offset, ← sizeOf f.type) : Sem (Nat × Nat))).run P w = .ok (l.map fun x => (x.1, x.2.1)) w := by
  induction fs generalizing l with
  | nil => intro w; simp [fieldsP] at h; subst h; simp
  | cons g fs ih =>
    intro w
    simp only [fieldsP] at h
    split at h
    · rename_i j l' hj hl
      obtain rfl := Option.some.inj h
      have := ih hl w
      rw [List.mapM_cons]
      simp only [Sem.run_bind, run_sz hj, Result.andThen_ok, run_pure', this, List.map_cons]
    · simp at h
theorem fieldsP_get {fs : List Field} {l : List (Nat × Nat × TypeId)} (h : fieldsP P fs = some l) {k off sz : Nat} {t : TypeId} (hk : l[k]? = some (off, sz, t)) :
    ∃ g j, fs[k]? = some g ∧ P.info? t = some j ∧ g.type = t ∧ g.offset = off ∧ j.size = sz := by
  induction fs generalizing l k with
  | nil => simp [fieldsP] at h; subst h; simp at hk
  | cons g fs ih =>
    simp only [fieldsP] at h
    split at h
    · rename_i j l' hj hl
      obtain rfl := Option.some.inj h
      match k with
      | 0 =>
        simp at hk
        obtain ⟨rfl, rfl, rfl⟩ := hk
        exact ⟨g, j, rfl, hj, rfl, rfl, rfl⟩
      | k + 1 => simpa using ih hl (by simpa using hk)
    · simp at h
theorem tk_struct {d : TypeDesc} {l : List (Nat × Nat × TypeId)} (h : tk P d = .struct l) : ∃ fs, d = .struct fs ∧ fieldsP P fs.toList = some l := by
  cases d <;> simp only [tk] at h <;> first | (exact absurd h (by simp)) | skip
  rename_i fs
  split at h
  · rename_i l' hl
    simp at h; subst h
    exact ⟨fs, rfl, hl⟩
  · simp at h
theorem tk_slice {d : TypeDesc} {e : TypeId} (h : tk P d = .slice e) : d = .slice e := by
  cases d <;> simp only [tk] at h <;> first | (cases h; rfl) | (cases h; done) | (split at h <;> cases h)
theorem tk_array {d : TypeDesc} {n : Nat} {e : TypeId} (h : tk P d = .array n e) : d = .array n e := by
  cases d <;> simp only [tk] at h <;> first | (cases h; rfl) | (cases h; done) | (split at h <;> cases h)
theorem tk_string {d : TypeDesc} (h : tk P d = .string) : d = .string := by
  cases d <;> simp only [tk] at h <;> first | (cases h; rfl) | (cases h; done) | (split at h <;> cases h)
theorem tk_int {d : TypeDesc} {k : IntKind} (h : tk P d = .int k) : d = .int k := by
  cases d <;> simp only [tk] at h <;> first | (cases h; rfl) | (cases h; done) | (split at h <;> cases h)
theorem kd_spec {t : TypeId} {k : TK} (h : kd P t = some k) : ∃ i, ti P t = some i ∧ i.kind = k := by
  unfold kd at h
  exact Option.map_eq_some_iff.1 h

theorem op_build (hs : Sim σ m w) (hρ : ∀ x, VR σ (ρ x) (ν x)) {t : TypeId} {parts : Array (Nat × Operand)} (ho : o.op = .build t parts) {p : PV} {m' : Mem} (h : gop P A f ρ o m = some (.val p m')) :
    ValOK σ w ((execOp ν o).run P w) p m' := by
  simp only [gop, ho] at h
  have hparts : ∀ (g : Operand → Value), (parts.map fun x => (x.1, g x.2)).toList = parts.toList.map fun x => (x.1, g x.2) := by intro g; simp
  split at h
  · rename_i fs s b ag z hi
    obtain ⟨inf, d, zv, h1, h2, h3, h4, _, _, h7, h8⟩ := ti_spec hi
    obtain ⟨fl, rfl, hfl⟩ := tk_struct h3.symm
    simp only at h8
    subst h8
    obtain ⟨cs, hcs, he⟩ := Option.map_eq_some_iff.1 h
    simp only [Out.val.injEq] at he
    obtain ⟨rfl, rfl⟩ := he
    obtain ⟨vs, hf, hrow⟩ := fill_sound hs hρ (place' := fun i => (fs.map fun x => (x.1, x.2.1)).toArray[i]?) (fun i x hx => by simpa using hx) parts.toList _ zv.cells cs ofV1_row hcs
    refine .same hs (v := .agg vs) (.agg hrow.1 hrow.2) ?_
    have hm : ∀ w, (fl.mapM fun f => (do pure (f.offset, ← sizeOf f.type) : Sem (Nat × Nat))).run P w = .ok (fs.map fun x => (x.1, x.2.1)).toArray w := by
      intro w
      rw [← Array.toArray_toList (xs := fl), List.mapM_toArray, Sem.run_map, fieldsP_spec hfl w]
      rfl
    simp only [execOp, ho, Instr.build, zeroValue, Sem.run_bind, run_ti h1, Result.andThen_ok, h7, run_underlying h2, run_pure', hm, hparts]
    rw [hf]
    rfl
  · rename_i n e s b ag z hi
    obtain ⟨inf, d, zv, h1, h2, h3, h4, _, _, h7, h8⟩ := ti_spec hi
    obtain rfl := tk_array h3.symm
    simp only at h8
    subst h8
    split at h
    · rename_i j hj
      obtain ⟨inf', d', zv', g1, g2, g3, g4, _⟩ := ti_spec hj
      obtain ⟨cs, hcs, he⟩ := Option.map_eq_some_iff.1 h
      simp only [Out.val.injEq] at he
      obtain ⟨rfl, rfl⟩ := he
      obtain ⟨vs, hf, hrow⟩ := fill_sound hs hρ (place' := fun i => some (i * inf'.size, inf'.size)) (fun i x hx => by rw [← g4]; exact hx) parts.toList _ zv.cells cs ofV1_row hcs
      refine .same hs (v := .agg vs) (.agg hrow.1 hrow.2) ?_
      simp only [execOp, ho, Instr.build, zeroValue, Sem.run_bind, run_ti h1, Result.andThen_ok, h7, run_underlying h2, run_pure', run_sz g1, hparts]
      rw [hf]
      rfl
    · simp at h
  · simp at h

theorem op_load (hs : Sim σ m w) (hρ : ∀ x, VR σ (ρ x) (ν x)) {t : TypeId} {a : Operand} (ho : o.op = .load t a) {p : PV} {m' : Mem} (h : gop P A f ρ o m = some (.val p m')) :
    ValOK σ w ((execOp ν o).run P w) p m' := by
  simp only [gop, ho] at h
  split at h
  · simp at h
  · rename_i i hi
    split at h
    · rename_i b off hb
      split at h
      · rename_i cs hm
        obtain ⟨v, hv, he⟩ := Option.map_eq_some_iff.1 h
        simp only [Out.val.injEq] at he
        obtain ⟨rfl, rfl⟩ := he
        have hx := hρ a
        rw [hb] at hx
        generalize hva : ν a = va at hx
        cases hx with
        | ptr e =>
          obtain ⟨u, hu, hvr⟩ := run_loadVar hi (lies_var hs e hm) hv
          refine .same hs hvr ?_
          rw [Nat.zero_add] at hu
          simp [execOp, ho, Instr.loadAt, Instr.sureAddr, hva, hu]
        | ptrG e =>
          have := hs.blk _ _ _ e hm
          simp [blkOK] at this
      · simp at h
    · rename_i cs off hb
      obtain ⟨v, hv, he⟩ := Option.map_eq_some_iff.1 h
      simp only [Out.val.injEq] at he
      obtain ⟨rfl, rfl⟩ := he
      have hx := hρ a
      rw [hb] at hx
      generalize hva : ν a = va at hx
      cases hx with
      | iptr g h1 h2 h3 =>
        obtain ⟨u, hu, hvr⟩ := run_loadVar hi (lies_imm hs g h1 h3) hv
        refine .same hs hvr ?_
        simp [execOp, ho, Instr.loadAt, Instr.sureAddr, hva, hu]
    · simp at h
end
end Go.Gm
