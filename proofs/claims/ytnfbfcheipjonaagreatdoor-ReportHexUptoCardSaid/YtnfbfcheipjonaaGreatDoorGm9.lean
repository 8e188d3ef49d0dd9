/- The ghost machine, part 9: addresses, parts, slices. -/
import Derived.Test.YtnfbfcheipjonaaGreatDoorGm8
set_option linter.unusedSimpArgs false
set_option linter.unusedVariables false
namespace Go.Gm
variable {P : Program}
section
variable {σ : Sig} {m : Mem} {w : World} {ρ : Operand → PV} {ν : Operand → Value} {A : Ann} {f : FuncId} {o : Oper}

theorem op_unOp (hs : Sim σ m w) (hρ : ∀ x, VR σ (ρ x) (ν x)) {op : UnOp} {t : TypeId} {x : Operand} (ho : o.op = .unOp op t x) {p : PV} {m' : Mem} (h : gop P A f ρ o m = some (.val p m')) :
    ValOK σ w ((execOp ν o).run P w) p m' := by
  simp only [gop, ho] at h
  obtain ⟨q, hq, he⟩ := Option.map_eq_some_iff.1 h
  simp only [Out.val.injEq] at he
  obtain ⟨rfl, rfl⟩ := he
  have hx := hρ x
  unfold un at hq
  split at hq
  · rename_i k n e
    rw [e] at hx
    generalize hv : ν x = vx at hx
    cases hx
    obtain rfl := Option.some.inj hq
    exact .same hs (.int k (k.wrap (0 - n))) (by simp [execOp, ho, hv, Op.unary, Op.intArith])
  · rename_i k n e
    rw [e] at hx
    generalize hv : ν x = vx at hx
    cases hx
    simp only [intBin] at hq
    obtain rfl := Option.some.inj hq
    exact .same hs (.int k _) (by simp [execOp, ho, hv, Op.unary, Op.intBits])
  · rename_i b e
    rw [e] at hx
    generalize hv : ν x = vx at hx
    cases hx
    obtain rfl := Option.some.inj hq
    exact .same hs (.bool !b) (by simp [execOp, ho, hv, Op.unary])
  · simp at hq

theorem op_convert0 (hs : Sim σ m w) (hρ : ∀ x, VR σ (ρ x) (ν x)) {s d : TypeId} {x : Operand} (ho : o.op = .convert s d x) (hmem : A.mem s d = false) {p : PV} {m' : Mem} (h : gop P A f ρ o m = some (.val p m')) :
    ValOK σ w ((execOp ν o).run P w) p m' := by
  simp only [gop, ho, hmem, Bool.false_eq_true, if_false] at h
  have hx := hρ x
  split at h
  · rename_i k k' n hk e
    obtain ⟨i, hi, hik⟩ := kd_spec hk
    obtain ⟨inf, dd, zv, h1, h2, h3, _⟩ := ti_spec hi
    obtain rfl := tk_int (h3.symm.trans hik)
    rw [e] at hx
    generalize hv : ν x = vx at hx
    cases hx
    split at h
    · rename_i d' hd'
      simp only [Option.some.injEq, Out.val.injEq] at h
      obtain ⟨rfl, rfl⟩ := h
      obtain ⟨i', hi', rfl⟩ := Option.map_eq_some_iff.1 hd'
      obtain ⟨inf', dd', zv', g1, g2, g3, _⟩ := ti_spec hi'
      refine .same hs (.int k (k.wrap n)) ?_
      simp only [execOp, ho, hv, convert, Sem.run_bind, run_underlying g2, run_underlying h2, Result.andThen_ok, Conv.intToInt]
      cases dd' <;> simp [Conv.intToInt]
    · simp at h
  · simp at h

theorem op_makeInterface (hs : Sim σ m w) (hρ : ∀ x, VR σ (ρ x) (ν x)) {t : TypeId} {x : Operand} (ho : o.op = .makeInterface t x) {p : PV} {m' : Mem} (h : gop P A f ρ o m = some (.val p m')) :
    ValOK σ w ((execOp ν o).run P w) p m' := by
  simp only [gop, ho] at h
  split at h
  · simp at h
  · rename_i k hni hk
    obtain ⟨i, hi, hik⟩ := kd_spec hk
    obtain ⟨inf, dd, zv, h1, h2, h3, _⟩ := ti_spec hi
    simp only [Option.some.injEq, Out.val.injEq] at h
    obtain ⟨rfl, rfl⟩ := h
    refine .same hs (.iface (hρ x)) ?_
    simp only [execOp, ho, Instr.makeInterface, Sem.run_bind, run_underlying h2, Result.andThen_ok]
    cases dd <;> first | rfl | (exfalso; apply hni; rw [← hik, h3]; rfl)
  · simp at h

theorem op_makeFunc (hs : Sim σ m w) (hρ : ∀ x, VR σ (ρ x) (ν x)) {fn : Fn} {a c : Array Operand} (ho : o.op = .makeFunc fn a c) {p : PV} {m' : Mem} (h : gop P A f ρ o m = some (.val p m')) :
    ValOK σ w ((execOp ν o).run P w) p m' := by
  simp only [gop, ho] at h
  simp only [Option.some.injEq, Out.val.injEq] at h
  obtain ⟨rfl, rfl⟩ := h
  have arr : ∀ (l : Array Operand) (j : Nat) (p : PV) (v : Value), (l.toList.map ρ)[j]? = some p → (l.map ν)[j]? = some v → VR σ p v := by
    intro l j p v a b
    rw [List.getElem?_map] at a
    obtain ⟨y, hy, rfl⟩ := Option.map_eq_some_iff.1 a
    rw [Array.getElem?_map] at b
    obtain ⟨z, hz, rfl⟩ := Option.map_eq_some_iff.1 b
    simp at hy
    rw [hz] at hy
    obtain rfl := Option.some.inj hy
    exact hρ _
  exact .same hs (.fn (by simp) (by simp) (arr a) (arr c)) (by simp [execOp, ho, Instr.makeFunc])

theorem op_extract (hs : Sim σ m w) (hρ : ∀ x, VR σ (ρ x) (ν x)) {x : Operand} {k : Nat} (ho : o.op = .extract x k) {p : PV} {m' : Mem} (h : gop P A f ρ o m = some (.val p m')) :
    ValOK σ w ((execOp ν o).run P w) p m' := by
  simp only [gop, ho] at h
  have hx := hρ x
  split at h
  · rename_i vs e
    rw [e] at hx
    split at h
    · rename_i q hq
      simp only [Option.some.injEq, Out.val.injEq] at h
      obtain ⟨rfl, rfl⟩ := h
      generalize hv : ν x = vx at hx
      cases hx with
      | tup h1 h2 =>
        rename_i us
        have hlt : k < us.size := by rw [← h1]; exact (List.getElem?_eq_some_iff.1 hq).1
        exact .same hs (h2 k q us[k] hq (by simp [hlt])) (by simp [execOp, ho, hv, Instr.extract, hlt])
    · simp at h
  · simp at h

theorem op_fieldAddr (hs : Sim σ m w) (hρ : ∀ x, VR σ (ρ x) (ν x)) {s : TypeId} {x : Operand} {k : Nat} (ho : o.op = .fieldAddr s x k) {p : PV} {m' : Mem} (h : gop P A f ρ o m = some (.val p m')) :
    ValOK σ w ((execOp ν o).run P w) p m' := by
  simp only [gop, ho] at h
  have hx := hρ x
  split at h
  · rename_i fs a b c d hi
    obtain ⟨inf, dd, zv, h1, h2, h3, _⟩ := ti_spec hi
    obtain ⟨fl, rfl, hfl⟩ := tk_struct h3.symm
    split at h
    · rename_i off sz u hk
      obtain ⟨g, j, hg, hj, hgt, hgo, hjs⟩ := fieldsP_get hfl hk
      split at h
      · simp at h
      · rename_i hsz
        have hrun : ∀ rb q, ν x = .pointer (some ⟨rb, q, none⟩) → (execOp ν o).run P w = .ok (.value (.pointer (some ⟨rb, q + off, none⟩))) w := by
          intro rb q hv
          have hgl : fl[k]? = some g := by simpa using hg
          simp only [execOp, ho, Instr.fieldAt, Sem.run_bind, run_underlying h2, Result.andThen_ok, hgl, hv, Instr.sureAddr, run_pure', fieldPlace, hgt, run_sz hj, hjs, if_neg hsz, addr_add, hgo]
        split at h
        · rename_i b' o' e
          split at h
          · rename_i cs hm
            simp only [Option.some.injEq, Out.val.injEq] at h
            obtain ⟨rfl, rfl⟩ := h
            rw [e] at hx
            generalize hv : ν x = vx at hx
            cases hx with
            | ptr e => exact .same hs (.ptr e) (hrun _ _ hv)
            | ptrG e =>
              have := hs.blk _ _ _ e hm
              simp [blkOK] at this
          · simp at h
        · rename_i cs o' e
          simp only [Option.some.injEq, Out.val.injEq] at h
          obtain ⟨rfl, rfl⟩ := h
          rw [e] at hx
          generalize hv : ν x = vx at hx
          cases hx with
          | iptr gg q1 q2 q3 => exact .same hs (by have := VR.iptr (σ := σ) (o := o' + off) gg q1 q2 q3; rwa [← Nat.add_assoc] at this) (hrun _ _ hv)
        · simp at h
    · simp at h
  · simp at h

theorem op_field (hs : Sim σ m w) (hρ : ∀ x, VR σ (ρ x) (ν x)) {s : TypeId} {x : Operand} {k : Nat} (ho : o.op = .field s x k) {p : PV} {m' : Mem} (h : gop P A f ρ o m = some (.val p m')) :
    ValOK σ w ((execOp ν o).run P w) p m' := by
  simp only [gop, ho] at h
  have hx := hρ x
  split at h
  · rename_i fs a b c d hi
    obtain ⟨inf, dd, zv, h1, h2, h3, _⟩ := ti_spec hi
    obtain ⟨fl, rfl, hfl⟩ := tk_struct h3.symm
    split at h
    · rename_i off sz u hk
      obtain ⟨g, j, hg, hj, hgt, hgo, hjs⟩ := fieldsP_get hfl hk
      split at h
      · rename_i jj cs hjj e
        obtain ⟨q, hq, he⟩ := Option.map_eq_some_iff.1 h
        simp only [Out.val.injEq] at he
        obtain ⟨rfl, rfl⟩ := he
        rw [e] at hx
        obtain ⟨vs, hv, hr⟩ := VR.agg_inv hx
        obtain ⟨v, hrun, hvr⟩ := run_part hjj hr hq w
        have hgl : fl[k]? = some g := by simpa using hg
        refine .same hs hvr ?_
        simp only [execOp, ho, Instr.field, Sem.run_bind, run_underlying h2, Result.andThen_ok, hgl, hv, asAgg, run_pure', hgt, hgo, hrun]
      · simp at h
    · simp at h
  · simp at h
end
end Go.Gm
