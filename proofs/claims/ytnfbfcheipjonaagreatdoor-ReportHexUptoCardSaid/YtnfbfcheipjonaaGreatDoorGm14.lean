/- The ghost machine, part 14: builtins; every operation that computes a value. -/
import Derived.Test.YtnfbfcheipjonaaGreatDoorGm13c
set_option linter.unusedSimpArgs false
set_option linter.unusedVariables false
namespace Go.Gm
variable {P : Program}
section
variable {σ : Sig} {m : Mem} {w : World} {ρ : Operand → PV} {ν : Operand → Value} {A : Ann} {f : FuncId} {o : Oper}

theorem Step.after {σ1 σ' : Sig} {w' : World} {m' : Mem} {p : PV} {v : Value} (h : Ext σ w σ1) (st : Step σ1 w m' p σ' w' v) : Step σ w m' p σ' w' v :=
  ⟨h.trans (Frm.refl _ _) st.ext, (Frm.refl σ w).trans h st.frm, st.sim, st.val⟩
theorem Elems.mono {σ1 : Sig} {sz : Nat} {es : List (List PV)} {vs : Array Value} (h : Ext σ w σ1) (hE : Elems σ sz es vs) : Elems σ1 sz es vs :=
  ⟨hE.1, hE.2.1, fun i e j p a b => by obtain ⟨u, hu, hr⟩ := hE.2.2 i e j p a b; exact ⟨u, hu, hr.mono h⟩⟩

theorem mapM_pur_one {xs ys : List (List PV)} (hs : Sim σ m w) (h : xs.mapM (pur m) = some ys) : ∀ (i : Nat) (e : List PV) (j : Nat) (p : PV), ys[i]? = some e → e[j]? = some p → p.one = true ∧ refs p = [] := by
  induction xs generalizing ys with
  | nil => simp at h; subst h; simp
  | cons x xs ih =>
    rw [List.mapM_cons] at h
    cases h1 : pur m x with
    | none => simp [h1] at h
    | some d =>
      cases h2 : xs.mapM (pur m) with
      | none => simp [h1, h2] at h
      | some es =>
        simp [h1, h2] at h
        subst h
        intro i e j p a b
        match i with
        | 0 =>
          simp at a; subst a
          obtain ⟨q, _, hq⟩ := (pur_sound hs h1).2 j p b
          exact ⟨(pur1_sound hs hq).2.1, (pur1_sound hs hq).1⟩
        | i + 1 => exact ih h2 i e j p (by simpa using a) b

theorem refs1_sub {p : PV} (h : refs p = []) : refs1 p = [] := by
  cases p <;> simp_all [refs, refs1]

theorem elems_one {sz : Nat} {ys : List (List PV)} {vs : Array Value} (hE : Elems σ sz ys vs) (h : ∀ (i : Nat) (e : List PV) (j : Nat) (p : PV), ys[i]? = some e → e[j]? = some p → p.one = true ∧ refs p = []) : ∀ x ∈ vs.toList, x.oneCell' = true := by
  intro x hx
  obtain ⟨t, ht⟩ := List.getElem?_of_mem hx
  simp at ht
  have htl : t < ys.length * sz := by rw [← hE.1]; exact (Array.getElem?_eq_some_iff.1 ht).1
  have hsz : 0 < sz := by rcases Nat.eq_zero_or_pos sz with x | x; (subst x; omega); exact x
  have hi : t / sz < ys.length := Nat.div_lt_of_lt_mul (by rw [Nat.mul_comm]; exact htl)
  have he := List.getElem?_eq_getElem hi
  have hlen := hE.2.1 _ (List.getElem_mem hi)
  have hj : t % sz < ys[t / sz].length := by rw [hlen]; exact Nat.mod_lt _ hsz
  have hp := List.getElem?_eq_getElem hj
  obtain ⟨u, hu, hr⟩ := hE.2.2 _ _ _ _ he hp
  rw [Nat.mul_comm, Nat.div_add_mod, ht] at hu
  obtain rfl := Option.some.inj hu
  obtain ⟨h1, h2⟩ := h _ _ _ _ he hp
  exact hr.one h1 (fun b hb => by rw [refs1_sub h2] at hb; simp at hb)

theorem set_last {α : Type} (l : List α) (x y : α) : (l ++ [x]).set l.length y = l ++ [y] := by
  rw [List.set_append_right _ _ (Nat.le_refl _)]; simp

theorem append_sound (hs : Sim σ m w) {i : TI} {e t u ty : TypeId} (hi : ti P e = some i) (ht : P.underlying t = some (.slice e)) (hu : (∃ e', P.underlying u = some (.slice e')) ∨ P.underlying u = some .string)
    {ps px : PV} {vs vx : Value} (h1 : VR σ ps vs) (h2 : VR σ px vx) {mu : Bool} {p : PV} {m' : Mem} (h : appendP mu e i m ps px = some (.val p m')) :
    ∃ σ' w' v', (Builtin.append_ #[t, u] ty #[vs, vx]).run P w = .ok v' w' ∧ Step σ w m' p σ' w' v' := by
  unfold appendP at h
  split at h
  · simp at h
  · rename_i xs hxs
    split at h
    · rename_i hc
      simp only [Bool.and_eq_true, decide_eq_true_eq] at hc
      obtain ⟨⟨⟨hz, hb0⟩, hs0⟩, hzl⟩ := hc
      obtain ⟨vv, hE0, hrun⟩ := elems_sound (P := P) hs h2 hxs hz
      split at h
      · split at h
        · rename_i ys hys
          split at h
          · rename_i hemp
            simp only [Option.some.injEq, Out.val.injEq] at h
            obtain ⟨rfl, rfl⟩ := h
            obtain ⟨hE, hyl, hpure⟩ := purs_sound hs hys hE0
            have hy0 : ys = [] := List.isEmpty_iff.1 hemp
            subst hy0
            rw [← hyl] at hrun
            obtain ⟨inf, d, z, g1, g2, g3, g4, g5, _, g7, g8⟩ := ti_spec hi
            have C : AppCx P t u e inf z := ⟨ht, hu, g1, g7⟩
            cases h1
            obtain ⟨r1, r2⟩ := hrun w rfl
            rw [g4] at r2
            have hvv : vv = #[] := by have := hE.1; simpa using this
            subst hvv
            exact ⟨σ, w, .slice none 0 0, by rw [append_room C r1 r2 (by simp)]; rfl, .same hs .nils⟩
          split at h
          · simp at h
          · split at h
            · rename_i hbnd
              simp only [Option.some.injEq, Out.val.injEq] at h
              obtain ⟨rfl, rfl⟩ := h
              obtain ⟨hE, hyl, hpure⟩ := purs_sound hs hys hE0
              have hone := elems_one hE (mapM_pur_one hs hys)
              rw [← hyl] at hrun
              cases h1
              obtain ⟨x1, x2⟩ := Step.newAcc0 hs (some e) i.size [] (.inr rfl) (by simp) (by simp)
              have hb : (σ.add (.acc none 0 i.size [])).B[m.length]? = some (.acc none 0 i.size []) := by rw [← hs.len]; exact Sig.add_at
              obtain ⟨σ', w', v', e1, e2⟩ := acc_append (P := P) (ty := ty) x2 hb (v := .slice none 0 0) (.acc (rb := none) (K := 0) (sz := i.size) (es := []) (ra := 0) (qa := 0) (fun _ _ => undef) hb (by simp) (by simp) (by simp) (by simp) (by simp) (by simp) (by simp))
                hi (by simp) (.inr rfl) hb0 hs0 hzl ht hu (hE.mono x1) hpure hone hrun (by simpa using hbnd)
              rw [List.nil_append, set_last] at e2
              exact ⟨σ', w', v', e1, e2.after x1⟩
            · simp at h
        · simp at h
      · rename_i sz es
        split at h
        · rename_i ys hys
          split at h
          · rename_i hcond
            obtain ⟨rfl, hbnd⟩ := hcond
            simp only [Option.some.injEq, Out.val.injEq] at h
            obtain ⟨rfl, rfl⟩ := h
            obtain ⟨hE, hyl, hpure⟩ := purs_sound hs hys hE0
            have hone := elems_one hE (mapM_pur_one hs hys)
            rw [← hyl] at hrun
            have hes : (∀ e ∈ es, e.length = i.size) ∧ (∀ (k : Nat) (e : List PV) (j : Nat) (p : PV), es[k]? = some e → e[j]? = some p → refs p = []) := by
              cases h1 with
              | sl g a1 a2 a3 a4 a5 a6 => exact ⟨fun e he => by obtain ⟨k, hk⟩ := List.getElem?_of_mem he; exact a1 k e hk, a3⟩
              | sl0 => exact ⟨by simp, by simp⟩
            obtain ⟨x1, x2⟩ := Step.newAcc0 hs none i.size es (.inl rfl) hes.1 hes.2
            have hb : (σ.add (.acc none 0 i.size es)).B[m.length]? = some (.acc none 0 i.size es) := by rw [← hs.len]; exact Sig.add_at
            have hva : VR (σ.add (.acc none 0 i.size es)) (.acc m.length es.length) vs := by
              cases h1 with
              | sl g a1 a2 a3 a4 a5 a6 =>
                exact .acc g hb (Nat.le_refl _) a5 (fun _ => rfl) (fun k e j p _ a b => a2 k e j p a b) (fun k e j p _ a b => a3 k e j p a b) (fun k e j p _ a b => (a4 k e j p a b).mono x1) (fun _ => a6 rfl)
              | sl0 a1 =>
                obtain rfl := a1 rfl
                exact .acc (ra := 0) (qa := 0) (fun _ _ => undef) hb (by simp) (by simp) (by simp) (by simp) (by simp) (by simp) (by simp)
            obtain ⟨σ', w', v', e1, e2⟩ := acc_append (P := P) (ty := ty) x2 hb hva hi (by simp) (.inl rfl) hb0 hs0 hzl ht hu (hE.mono x1) hpure hone hrun hbnd
            rw [set_last] at e2
            rw [← List.length_append]
            exact ⟨σ', w', v', e1, e2.after x1⟩
          · simp at h
        · simp at h
      · rename_i b n
        split at h
        · rename_i tt sz es ys hm hys
          split at h
          · rename_i hcond
            obtain ⟨htt, rfl, rfl, hbnd⟩ := hcond
            simp only [Option.some.injEq, Out.val.injEq] at h
            obtain ⟨rfl, rfl⟩ := h
            obtain ⟨hE, hyl, hpure⟩ := purs_sound hs hys hE0
            have hone := elems_one hE (mapM_pur_one hs hys)
            rw [← hyl] at hrun
            have hb : ∃ rb K, σ.B[b]? = some (.acc rb K i.size es) := by
              cases h1 with
              | acc g e1 a1 a2 a3 a4 a5 a6 a7 =>
                have := hs.blk _ _ _ e1 hm
                simp only [blkOK] at this
                obtain ⟨_, q1, q2, _⟩ := this
                rw [← q1, ← q2] at e1
                exact ⟨_, _, e1⟩
            obtain ⟨rb, K, hb⟩ := hb
            obtain ⟨σ', w', v', e1, e2⟩ := acc_append (P := P) (ty := ty) hs hb h1 hi hm htt hb0 hs0 hzl ht hu hE hpure hone hrun hbnd
            rw [← List.length_append]
            exact ⟨σ', w', v', e1, e2⟩
          · simp at h
        · simp at h
      · simp at h
    · simp at h

theorem len_val {p : PV} {v : Value} (hs : Sim σ m w) (h : VR σ p v) {n : Nat} (hn : lenP p = some n) (hns : ∀ s, p = .str s → False) (hl : okc m p = true) : ∃ a c, v = .slice a n c := by
  have hlive := okc_live hs hl
  cases h <;> simp only [lenP, Option.some.injEq] at hn <;> first
    | (simp at hn; done)
    | (subst hn; exact ⟨_, _, rfl⟩)
    | (exact (hns _ rfl).elim)
    | skip
  rename_i e
  exact absurd e (hlive _ (by simp [refs]))

theorem args_one {args : Array Operand} {x : PV} (h : args.toList.map ρ = [x]) : ∃ y, args = #[y] ∧ x = ρ y := by
  match ha : args.toList, h with
  | [y], h =>
    simp at h
    exact ⟨y, Array.toList_inj.1 (by simpa using ha), h.symm⟩
theorem args_two {args : Array Operand} {x y : PV} (h : args.toList.map ρ = [x, y]) : ∃ a b, args = #[a, b] ∧ x = ρ a ∧ y = ρ b := by
  match ha : args.toList, h with
  | [a, b], h =>
    simp at h
    exact ⟨a, b, Array.toList_inj.1 (by simpa using ha), h.1.symm, h.2.symm⟩

theorem op_builtin (hs : Sim σ m w) (hρ : ∀ x, VR σ (ρ x) (ν x)) {c : Call} {b : Builtin} (hc : c.callee = .builtin b) (ho : o.op = .call c) {p : PV} {m' : Mem} (h : gop P A f ρ o m = some (.val p m')) :
    ValOK σ w ((execOp ν o).run P w) p m' := by
  simp only [gop, ho, hc] at h
  have hres : (execOp ν o).run P w = (builtin b c.argTypes o.type (c.args.map fun | .const _ => true | _ => false) (c.args.map ν)).run P w := by
    simp only [execOp, ho, resolve, hc, Sem.run_bind, run_pure', Result.andThen_ok, invoke]
    rfl
  rw [hres]
  clear hres
  generalize (c.args.map fun | .const _ => true | _ => false) = consts
  unfold builtinP at h
  split at h
  · rename_i x hx
    obtain ⟨y, hy, rfl⟩ := args_one hx
    rw [hy]
    split at h
    · simp at h
    · rename_i t ht
      split at h
      · rename_i hk
        obtain ⟨it, hi, hik⟩ := kd_spec hk
        obtain ⟨inf, dd, zv, h1, h2, h3, _⟩ := ti_spec hi
        obtain rfl := tk_string (h3.symm.trans hik)
        split at h
        · rename_i s hs'
          simp only [Option.some.injEq, Out.val.injEq] at h
          obtain ⟨rfl, rfl⟩ := h
          have hv := hρ y
          rw [hs'] at hv
          generalize hvy : ν y = vy at hv
          cases hv
          refine .same hs (.int .i64 s.size) ?_
          simp [builtin, Builtin.len_, ht, hvy, run_underlying h2, goInt]
        · simp at h
      · rename_i e hk
        obtain ⟨it, hi, hik⟩ := kd_spec hk
        obtain ⟨inf, dd, zv, h1, h2, h3, _⟩ := ti_spec hi
        obtain rfl := tk_slice (h3.symm.trans hik)
        split at h
        · rename_i hok
          split at h
          · simp at h
          · rename_i hns
            split at h
            · rename_i n hn
              simp only [Option.some.injEq, Out.val.injEq] at h
              obtain ⟨rfl, rfl⟩ := h
              obtain ⟨a, cc, hv⟩ := len_val hs (hρ y) hn (fun s e => hns s e) hok
              refine .same hs (.int .i64 n) ?_
              simp [builtin, Builtin.len_, ht, hv, run_underlying h2, goInt]
            · simp at h
        · simp at h
      · rename_i n e hk
        obtain ⟨it, hi, hik⟩ := kd_spec hk
        obtain ⟨inf, dd, zv, h1, h2, h3, _⟩ := ti_spec hi
        obtain rfl := tk_array (h3.symm.trans hik)
        simp only [Option.some.injEq, Out.val.injEq] at h
        obtain ⟨rfl, rfl⟩ := h
        refine .same hs (.int .i64 n) ?_
        simp [builtin, Builtin.len_, ht, run_underlying h2, goInt]
      · rename_i kt e hk
        obtain ⟨d, hd, hdt⟩ := kd_desc hk
        obtain rfl := tk_map hdt
        split at h
        · rename_i es hes
          simp only [Option.some.injEq, Out.val.injEq] at h
          obtain ⟨rfl, rfl⟩ := h
          have hv := hρ y
          generalize hvy : ν y = vy at hv
          refine .same hs (.int .i64 es.length) ?_
          unfold entP at hes
          split at hes
          · rename_i e1
            rw [e1] at hv
            cases hv
            obtain rfl := Option.some.inj hes
            simp [builtin, Builtin.len_, ht, hvy, run_underlying hd, goInt]
          · rename_i b e1
            rw [e1] at hv
            split at hes
            · rename_i es' hm
              obtain rfl := Option.some.inj hes
              obtain ⟨rb, c, k', rfl, h2, h3, h4⟩ := map_entries hs hm hv
              simp [builtin, Builtin.len_, ht, hvy, run_underlying hd, goInt, run_getMap h3, Sem.run_bind, h4.1]
            · simp at hes
          · simp at hes
        · simp at h
      · simp at h
  · rename_i x k hx
    obtain ⟨a, b, hab, rfl, rfl⟩ := args_two hx
    rw [hab]
    split at h
    · rename_i t ht
      obtain ⟨q, hq, he⟩ := Option.map_eq_some_iff.1 h
      simp only [Out.val.injEq] at he
      obtain ⟨rfl, rfl⟩ := he
      obtain ⟨w', e1, e2⟩ := del_sound (P := P) hs (hρ a) (hρ b) hq ht o.type
      refine ⟨σ, w', .tuple #[], .inl ?_, e2⟩
      simp only [builtin, List.map_toArray, List.map_cons, List.map_nil, Sem.run_bind, e1, Result.andThen_ok, run_pure']
    · simp at h
  · rename_i x hx
    obtain ⟨y, hy, rfl⟩ := args_one hx
    rw [hy]
    have fin : ((ρ y = .nils ∧ p = .nilp) ∨ ∃ b n, ρ y = .acc b n ∧ n ≠ 0 ∧ p = .accp b n) → m' = m → ValOK σ w ((builtin .unsafeSliceData c.argTypes o.type consts (Array.map ν #[y])).run P w) p m' := by
      rintro hp rfl
      obtain ⟨v, e1, e2⟩ := slicedata_sound (P := P) hs (hρ y) (ts := c.argTypes) (ty := o.type) hp
      refine .same hs e2 ?_
      simp only [builtin, List.map_toArray, List.map_cons, List.map_nil, Sem.run_bind, e1, Result.andThen_ok, run_pure']
    split at h
    · rename_i e1
      simp only [Option.some.injEq, Out.val.injEq] at h
      exact fin (.inl ⟨e1, h.1.symm⟩) h.2.symm
    · rename_i b n e1
      split at h
      · simp at h
      · rename_i hn
        simp only [Option.some.injEq, Out.val.injEq] at h
        exact fin (.inr ⟨b, n, e1, hn, h.1.symm⟩) h.2.symm
    · simp at h
  · rename_i x k n hx
    obtain ⟨a, b, hab, hxa, hk⟩ := args_two hx
    rw [hab]
    have va := hρ a
    have vb := hρ b
    rw [← hxa] at va
    rw [← hk] at vb
    generalize hva : ν a = wa at va
    generalize hvb : ν b = wb at vb
    cases vb
    split at h
    · rename_i u hu
      obtain ⟨pt, ht, hpt⟩ := Option.bind_eq_some_iff.1 hu
      split at h
      · split at h
        · rename_i hk0
          subst hk0
          simp only [Option.some.injEq, Out.val.injEq] at h
          obtain ⟨rfl, rfl⟩ := h
          cases va
          refine .same hs (.str _) ?_
          simp only [builtin, List.map_toArray, List.map_cons, List.map_nil, hva, hvb, Sem.run_bind, unsafeString_nil _ _ _ ht, Result.andThen_ok, run_pure']
        · simp at h
      · rename_i b' n' 
        split at h
        · simp at h
        · rename_i hkn
          split at h
          · rename_i t es hm
            split at h
            · simp at h
            · rename_i hn
              split at h
              · rename_i l hl
                split at h
                · rename_i e
                  split at h
                  · rename_i hlie
                    simp only [Option.some.injEq, Out.val.injEq] at h
                    obtain ⟨rfl, rfl⟩ := h
                    have hkn' : n = (n' : Int) := by omega
                    subst hkn'
                    obtain ⟨w', e1, e2, e3⟩ := unsafestring_sound (P := P) hs va (ts := c.argTypes) (ty := o.type) ht hpt (kk := k) (by omega) hm (by omega) (by omega) hl rfl hlie
                    refine ⟨σ, w', _, .inl ?_, .refl _ _, e3, e2, .str _⟩
                    simp only [builtin, List.map_toArray, List.map_cons, List.map_nil, hva, hvb, Sem.run_bind, e1, Result.andThen_ok, run_pure']
                  · simp at h
                · simp at h
              · simp at h
          · simp at h
      · simp at h
    · simp at h
  · rename_i s x hx
    obtain ⟨a, b, hab, rfl, rfl⟩ := args_two hx
    rw [hab]
    split at h
    · rename_i t u ht hu
      have hts : ∀ (i : TI) (e : TypeId), kd P t = some (.slice e) → ti P e = some i → ((∃ e', P.underlying u = some (.slice e')) ∨ P.underlying u = some .string) → appendP (mutD A f o.dst) e i m (ρ a) (ρ b) = some (.val p m') →
          ValOK σ w ((builtin .append c.argTypes o.type consts (Array.map ν #[a, b])).run P w) p m' := by
        intro i e hk hi hud happ
        obtain ⟨it, hi', hik⟩ := kd_spec hk
        obtain ⟨inf, dd, zv, h1, h2, h3, _⟩ := ti_spec hi'
        obtain rfl := tk_slice (h3.symm.trans hik)
        obtain ⟨σ', w', v', e1, e2⟩ := append_sound (P := P) (t := t) (u := u) (ty := o.type) hs hi h2 hud (hρ a) (hρ b) happ
        refine ⟨σ', w', v', .inl ?_, e2⟩
        have hat : (Builtin.append_ c.argTypes o.type #[ν a, ν b]) = Builtin.append_ #[t, u] o.type #[ν a, ν b] := by
          unfold Builtin.append_
          simp only [ht, hu, List.getElem?_toArray, List.getElem?_cons_zero, List.getElem?_cons_succ]
        simp only [builtin, List.map_toArray, List.map_cons, List.map_nil, Sem.run_bind, hat, e1, Result.andThen_ok, run_pure']
      split at h
      · rename_i e e' hk hk'
        split at h
        · rename_i i hi
          obtain ⟨it, hi', hik⟩ := kd_spec hk'
          obtain ⟨inf, dd, zv, h1, h2, h3, _⟩ := ti_spec hi'
          obtain rfl := tk_slice (h3.symm.trans hik)
          exact hts i e hk hi (.inl ⟨_, h2⟩) h
        · simp at h
      · rename_i e hk hk'
        split at h
        · rename_i i hi
          obtain ⟨it, hi', hik⟩ := kd_spec hk'
          obtain ⟨inf, dd, zv, h1, h2, h3, _⟩ := ti_spec hi'
          obtain rfl := tk_string (h3.symm.trans hik)
          exact hts i e hk hi (.inr h2) h
        · simp at h
      · simp at h
    · simp at h
  · rename_i k x k' y hx
    obtain ⟨a, b, hab, h1, h2⟩ := args_two hx
    rw [hab]
    split at h
    · rename_i hk
      subst hk
      simp only [Option.some.injEq, Out.val.injEq] at h
      obtain ⟨rfl, rfl⟩ := h
      have va := hρ a
      have vb := hρ b
      rw [← h1] at va; rw [← h2] at vb
      generalize hva : ν a = wa at va
      generalize hvb : ν b = wb at vb
      cases va; cases vb
      refine .same hs (.int k _) ?_
      simp [builtin, Builtin.min_, Builtin.min2, hva, hvb]
    · simp at h
  · rename_i k x k' y hx
    obtain ⟨a, b, hab, h1, h2⟩ := args_two hx
    rw [hab]
    split at h
    · rename_i hk
      subst hk
      simp only [Option.some.injEq, Out.val.injEq] at h
      obtain ⟨rfl, rfl⟩ := h
      have va := hρ a
      have vb := hρ b
      rw [← h1] at va; rw [← h2] at vb
      generalize hva : ν a = wa at va
      generalize hvb : ν b = wb at vb
      cases va; cases vb
      refine .same hs (.int k _) ?_
      simp [builtin, Builtin.max_, Builtin.max2, hva, hvb]
    · simp at h
  · simp at h
end
end Go.Gm
