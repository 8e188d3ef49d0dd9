/- The ghost machine, part 11: slice expressions, len, min, max, append. -/
import Derived.Test.YtnfbfcheipjonaaGreatDoorGm10
set_option linter.unusedSimpArgs false
set_option linter.unusedVariables false
namespace Go.Gm
variable {P : Program}
section
variable {σ : Sig} {m : Mem} {w : World} {ρ : Operand → PV} {ν : Operand → Value} {A : Ann} {f : FuncId} {o : Oper}

theorem run_bound {v : PV} {u : Value} (hv : VR σ v u) {most n : Nat} (h : asNat v most = some n) {cap : Nat} (hc : most ≤ cap) (code : BoundsCode) (w : World) :
    n ≤ most ∧ (Instr.sliceBound u cap code).run P w = .ok n w := by
  unfold asNat at h
  split at h
  · split at h
    · rename_i k i hi
      obtain rfl := Option.some.inj h
      cases hv
      refine ⟨by omega, ?_⟩
      simp only [Instr.sliceBound, asIntOf, Sem.run_bind, run_pure', Result.andThen_ok]
      rw [if_pos ⟨hi.1, by omega⟩]
      rfl
    · simp at h
  · simp at h

theorem run_bounds (hρ : ∀ x, VR σ (ρ x) (ν x)) (isSlice : Bool) {n cap h l : Nat} (hn : n ≤ cap) {lo hi : Option Operand} (hh : (match hi.map ρ with | none => some n | some v => asNat v n) = some h)
    (hl : (match lo.map ρ with | none => some 0 | some v => asNat v h) = some l) (w : World) :
    h ≤ n ∧ l ≤ h ∧ (Instr.sliceBounds isSlice n cap (lo.map ν) (hi.map ν) none).run P w = .ok (l, h, cap) w := by
  have e1 : h ≤ n ∧ (∀ vh : Option Value, vh = hi.map ν → (match vh with | some v => Instr.sliceBound v cap (if isSlice then .sliceAcap else .sliceAlen) | none => pure n : Sem Nat).run P w = .ok h w) := by
    cases hi with
    | none => simp at hh; subst hh; exact ⟨Nat.le_refl _, fun vh e => by subst e; rfl⟩
    | some x =>
      have := run_bound (P := P) (hρ x) (most := n) (n := h) hh hn (if isSlice then .sliceAcap else .sliceAlen) w
      exact ⟨this.1, fun vh e => by subst e; exact this.2⟩
  have e2 : l ≤ h ∧ (∀ vl : Option Value, vl = lo.map ν → (match vl with | some v => Instr.sliceBound v h .sliceB | none => pure 0 : Sem Nat).run P w = .ok l w) := by
    cases lo with
    | none => simp at hl; subst hl; exact ⟨Nat.zero_le _, fun vl e => by subst e; rfl⟩
    | some x =>
      have := run_bound (P := P) (hρ x) (most := h) (n := l) hl (Nat.le_refl _) .sliceB w
      exact ⟨this.1, fun vl e => by subst e; exact this.2⟩
  refine ⟨e1.1, e2.1, ?_⟩
  have a1 := e1.2 _ rfl
  have a2 := e2.2 _ rfl
  unfold Instr.sliceBounds
  simp only [Sem.run_bind, run_pure', Result.andThen_ok, Option.isSome_none, Bool.false_eq_true, if_false]
  cases hi with
  | none =>
    simp only [Option.map_none, Option.some.injEq] at hh
    subst hh
    simp only [Option.map_none, pure_bind]
    cases lo with
    | none =>
      simp only [Option.map_none, run_pure', Result.ok.injEq, and_true] at a2
      subst a2
      rfl
    | some x => simp only [Option.map_some] at a2 ⊢; simp only [Sem.run_bind, a2, Result.andThen_ok, run_pure']
  | some y =>
    simp only [Option.map_some] at a1 ⊢
    simp only [Sem.run_bind, a1, Result.andThen_ok]
    cases lo with
    | none =>
      simp only [Option.map_none, run_pure', Result.ok.injEq, and_true] at a2
      subst a2
      rfl
    | some x => simp only [Option.map_some] at a2 ⊢; simp only [Sem.run_bind, a2, Result.andThen_ok, run_pure']

/-- A cut of an immutable slice. -/
theorem VR.cut {full : Bool} {sz : Nat} {es : List (List PV)} {a : Option Addr} {n c l h : Nat} (hv : VR σ (.sl full sz es) (.slice a n c)) (h1 : l ≤ h) (h2 : h ≤ n) (hc : n ≤ c) :
    VR σ (.sl false sz ((es.drop l).take (h - l))) (.slice (if c = l then a else a.map (·.add (l * sz))) (h - l) (c - l)) := by
  have hn : n = es.length := hv.elem.1
  rcases Nat.eq_or_lt_of_le h1 with e | e
  · subst e
    simp only [Nat.sub_self, List.take_zero]
    exact .sl0 (by simp)
  · cases hv with
    | sl0 => simp at hn; omega
    | sl g g1 g2 g3 g4 g5 g6 =>
      rename_i rb q
      rw [if_neg (by omega)]
      simp only [Option.map_some, addr_add]
      have hl : ((es.drop l).take (h - l)).length = h - l := by simp; omega
      have hg : ∀ {i : Nat} {e : List PV}, ((es.drop l).take (h - l))[i]? = some e → es[l + i]? = some e := by
        intro i e hi
        have hi' := (List.getElem?_eq_some_iff.1 hi).1
        rw [hl] at hi'
        rwa [List.getElem?_take_of_lt hi', List.getElem?_drop] at hi
      have := VR.sl (σ := σ) (full := false) (sz := sz) (es := (es.drop l).take (h - l)) (rb := rb) (q := q + l * sz) (c := c - l) (fun i j => g (l + i) j) (fun i e a => g1 _ e (hg a))
        (fun i e j p a b => by have := g2 _ e j p (hg a) b; rw [← this]; congr 1; rw [Nat.add_mul]; omega) (fun i e j p a b => g3 _ e j p (hg a) b) (fun i e j p a b => g4 _ e j p (hg a) b) (by rw [hl]; omega) (by simp)
      rwa [hl] at this

theorem VR.sl_cap {full : Bool} {sz : Nat} {es : List (List PV)} {a : Option Addr} {n c : Nat} (hv : VR σ (.sl full sz es) (.slice a n c)) : n ≤ c := by
  cases hv with
  | sl g g1 g2 g3 g4 g5 g6 => exact g5
  | sl0 => exact Nat.zero_le _

theorem run_slice_sl {t e : TypeId} {inf : TypeInfo} (h2 : P.underlying t = some (.slice e)) (g1 : P.info? e = some inf) {a : Option Addr} {n c l h : Nat} {lo hi : Option Value} {w : World}
    (hb : (Instr.sliceBounds true n c lo hi none).run P w = .ok (l, h, c) w) : (Instr.sliceAt t (.slice a n c) lo hi none).run P w = .ok (.slice (if c = l then a else a.map (·.add (l * inf.size))) (h - l) (c - l)) w := by
  simp only [Instr.sliceAt, Instr.slice, Sem.run_bind, run_underlying h2, Result.andThen_ok, hb, run_sz g1, run_pure']

/-- A slice of an array. -/
theorem slice_arr (hs : Sim σ m w) (hρ : ∀ x, VR σ (ρ x) (ν x)) {t : TypeId} {b : Nat} {lo hi : Option Operand} {vx : Value} (hx : VR σ (.ptr b 0) vx) {q : PV} (hq : sliceArr P t m b (lo.map ρ) (hi.map ρ) = some q) :
    ∃ v, (Instr.sliceAt t vx (lo.map ν) (hi.map ν) none).run P w = .ok v w ∧ VR σ q v := by
  unfold sliceArr at hq
  split at hq
  · rename_i n e hk
    obtain ⟨it, hi', hik⟩ := kd_spec hk
    obtain ⟨inf, dd, zv, h1, h2, h3, _⟩ := ti_spec hi'
    obtain rfl := tk_array (h3.symm.trans hik)
    split at hq
    · rename_i i ty cs hti hm
      obtain ⟨inf', d', z', g1, g2, g3, g4, _⟩ := ti_spec hti
      split at hq
      · simp at hq
      · rename_i h hh
        split at hq
        · simp at hq
        · rename_i l hl
          split at hq
          · rename_i hc
            obtain rfl := Option.some.inj hq
            obtain ⟨b1, b2, b3⟩ := run_bounds (P := P) hρ false (Nat.le_refl n) hh hl w
            cases hx with
            | ptrG e =>
              have := hs.blk _ _ _ e hm
              simp [blkOK] at this
            | ptr e =>
              rename_i rb k
              obtain ⟨c, k1, k2, ⟨k3, k5⟩, k4⟩ := hs.blk _ _ _ e hm
              refine ⟨.slice (some (if n = l then (⟨rb, 0, none⟩ : Addr) else (⟨rb, 0, none⟩ : Addr).add (l * inf'.size))) (h - l) (n - l), ?_, ?_⟩
              · simp only [Instr.sliceAt, Instr.sureAddr, Sem.run_bind, run_underlying h2, Result.andThen_ok, run_pure']
                simp only [b3, Result.andThen_ok, run_sz g1, Sem.run_bind, run_pure']
              have hsz : n * i.size = k := by rw [hc.1]; exact k5 rfl
              have ha : (if n = l then (⟨rb, 0, none⟩ : Addr) else (⟨rb, 0, none⟩ : Addr).add (l * inf'.size)) = ⟨rb, l * i.size, none⟩ := by
                rw [← g4]
                split
                · rename_i e1
                  rcases hc.2 with h0 | h0
                  · simp [h0]
                  · omega
                · simp [addr_add]
              rw [ha]
              exact .ref e (by rw [show l + (n - l) = n by omega]; exact hsz) (by omega)
          · simp at hq
    · simp at hq
  · simp at hq

theorem op_slice (hs : Sim σ m w) (hρ : ∀ x, VR σ (ρ x) (ν x)) {t : TypeId} {x : Operand} {lo hi : Option Operand} (ho : o.op = .slice t x lo hi none) {p : PV} {m' : Mem} (h : gop P A f ρ o m = some (.val p m')) :
    ValOK σ w ((execOp ν o).run P w) p m' := by
  simp only [gop, ho] at h
  obtain ⟨q, hq, he⟩ := Option.map_eq_some_iff.1 h
  simp only [Out.val.injEq] at he
  obtain ⟨rfl, rfl⟩ := he
  have hx := hρ x
  generalize hv : ν x = vx at hx
  have hrun : ∀ v, (Instr.sliceAt t vx (lo.map ν) (hi.map ν) none).run P w = .ok v w → (execOp ν o).run P w = .ok (.value v) w := by
    intro v e
    simp only [execOp, ho, hv, Option.map_none, Sem.run_bind, e, Result.andThen_ok, run_pure']
  by_cases hptr : ∃ b, ρ x = .ptr b 0
  · obtain ⟨b, hb⟩ := hptr
    rw [hb] at hx hq
    obtain ⟨v, e1, e2⟩ := slice_arr (P := P) hs hρ hx hq
    exact .same hs e2 (hrun v e1)
  have hq : sliceP P t m (ρ x) (lo.map ρ) (hi.map ρ) = some q := by
    rw [← hq]; unfold sliceQ; split
    · rename_i b e; exact absurd ⟨b, e⟩ hptr
    · rfl
  unfold sliceP at hq
  split at hq
  · simp at hq
  · rename_i n hlen
    split at hq
    · simp at hq
    · rename_i hh' hhh
      split at hq
      · simp at hq
      · rename_i ll hll
        split at hq
        · rename_i s e1
          rw [e1] at hx hlen
          simp only [lenP, Option.some.injEq] at hlen
          subst hlen
          split at hq
          · rename_i hk
            obtain rfl := Option.some.inj hq
            obtain ⟨it, hi', hik⟩ := kd_spec hk
            obtain ⟨inf, dd, zv, h1, h2, h3, _⟩ := ti_spec hi'
            obtain rfl := tk_string (h3.symm.trans hik)
            cases hx
            obtain ⟨b1, b2, b3⟩ := run_bounds (P := P) hρ false (Nat.le_refl _) hhh hll w
            refine .same hs (.str _) (hrun _ ?_)
            simp only [Instr.sliceAt, Instr.slice, Sem.run_bind, run_underlying h2, Result.andThen_ok, Option.isSome_none, Bool.false_eq_true, if_false, b3, run_pure']
          · simp at hq
        · split at hq
          · rename_i e hk
            obtain ⟨it, hi', hik⟩ := kd_spec hk
            obtain ⟨inf, dd, zv, h1, h2, h3, _⟩ := ti_spec hi'
            obtain rfl := tk_slice (h3.symm.trans hik)
            split at hq
            · simp at hq
            · rename_i i hi2
              obtain ⟨inf', d', zv', g1, g2, g3, g4, _⟩ := ti_spec hi2
              split at hq
              · rename_i hsz
                split at hq
                · rename_i e1
                  obtain rfl := Option.some.inj hq
                  rw [e1] at hx hlen
                  simp only [lenP, Option.some.injEq] at hlen
                  subst hlen
                  cases hx
                  obtain ⟨b1, b2, b3⟩ := run_bounds (P := P) hρ true (cap := 0) (Nat.le_refl _) hhh hll w
                  obtain rfl : hh' = 0 := by omega
                  obtain rfl : ll = 0 := by omega
                  have := run_slice_sl h2 g1 (a := none) b3
                  exact .same hs .nils (hrun _ (by simpa using this))
                · rename_i fl sz es e1
                  obtain rfl := Option.some.inj hq
                  rw [e1] at hx hlen hsz
                  simp only [lenP, Option.some.injEq] at hlen
                  simp only [szOk, beq_iff_eq] at hsz
                  subst hsz
                  obtain ⟨a, n', c, rfl⟩ := hx.sl_form
                  have hn' := hx.elem.1
                  have hc := hx.sl_cap
                  rw [hlen] at hn'
                  subst hn'
                  obtain ⟨b1, b2, b3⟩ := run_bounds (P := P) hρ true hc hhh hll w
                  refine .same hs (hx.cut b2 b1 hc) (hrun _ ?_)
                  rw [g4]; exact run_slice_sl h2 g1 b3
                · rename_i b n' e1
                  rw [e1] at hx hlen
                  simp only [lenP, Option.some.injEq] at hlen
                  subst hlen
                  split at hq
                  · rename_i sz es hm
                    split at hq
                    · rename_i hsz'
                      obtain rfl := Option.some.inj hq
                      subst hsz'
                      obtain ⟨hnl, hx'⟩ := hx.snap hs hm
                      obtain ⟨a, n2, c, rfl⟩ := hx'.sl_form
                      have hn2 := hx'.elem.1
                      have hl : (es.take n').length = n' := by simp; omega
                      rw [hl] at hn2
                      subst hn2
                      have hc := hx'.sl_cap
                      obtain ⟨b1, b2, b3⟩ := run_bounds (P := P) hρ true hc hhh hll w
                      have hcut := hx'.cut b2 b1 hc
                      have hdt : ((es.take n2).drop ll).take (hh' - ll) = (es.drop ll).take (hh' - ll) := by
                        rw [List.drop_take, List.take_take]; congr 1; omega
                      rw [hdt] at hcut
                      refine .same hs hcut (hrun _ ?_)
                      rw [g4]; exact run_slice_sl h2 g1 b3
                    · simp at hq
                  · simp at hq
                · rename_i b sz oo n' e1
                  rw [e1] at hx hlen hsz
                  simp only [lenP, Option.some.injEq] at hlen
                  subst hlen
                  simp only [szOk, beq_iff_eq] at hsz
                  subst hsz
                  split at hq
                  · rename_i cs hm
                    split at hq
                    · rename_i hor
                      obtain rfl := Option.some.inj hq
                      cases hx with
                      | ref e2 h4 h5 =>
                        rename_i c rb mm
                        obtain ⟨b1, b2, b3⟩ := run_bounds (P := P) hρ true h5 hhh hll w
                        have := run_slice_sl h2 g1 (a := some ⟨rb, oo * i.size, none⟩) b3
                        refine .same hs ?_ (hrun _ this)
                        have hr := VR.ref (σ := σ) (b := b) (sz := i.size) (o := oo + ll) (n := hh' - ll) (c := c - ll) e2 (by rw [← h4]; congr 1; omega) (by omega)
                        by_cases hcl : c = ll
                        · rw [if_pos hcl]
                          obtain rfl : ll = 0 := by omega
                          simpa using hr
                        · rw [if_neg hcl]
                          simp only [Option.map_some, addr_add]
                          rw [← g4, ← Nat.add_mul]; exact hr
                      | refG e2 =>
                        have := hs.blk _ _ _ e2 hm
                        simp [blkOK] at this
                    · simp at hq
                  · simp at hq
                · simp at hq
              · simp at hq
          · simp at hq
end
end Go.Gm
