/- The ghost machine, part 27: every order of a drawn region. -/
import Derived.Test.YtnfbfcheipjonaaGreatDoorGm26
set_option linter.unusedSimpArgs false
set_option linter.unusedVariables false
namespace Go.Gm
section
variable {E : Env} {call : FuncId → List PV → Mem → Option (CRes × Mem)} {f : FuncId} {id : Nat} {ops : Array Oper} {ms : List Nat} {N : Nat} {st : Nat → St}

/-- The moment: every effect ahead of x has been drawn, and x itself has not. -/
structure At (E : Env) (f : FuncId) (ops : Array Oper) (N : Nat) (S : Nat → Bool) (x : Nat) : Prop where
  le : x ≤ N
  before : ∀ e, e < x → effO E.A f ops e = true → S e = true
  here : x = N ∨ (effO E.A f ops x = true ∧ S x = false)

theorem At.find (S : Nat → Bool) : ∀ (k a : Nat), a + k = N → (∀ e, e < a → effO E.A f ops e = true → S e = true) → ∃ x, a ≤ x ∧ At E f ops N S x
  | 0, a, hk, h => ⟨a, Nat.le_refl _, by omega, h, .inl (by omega)⟩
  | k + 1, a, hk, h => by
    by_cases hc : effO E.A f ops a = true ∧ S a = false
    · exact ⟨a, Nat.le_refl _, by omega, h, .inr hc⟩
    · obtain ⟨x, hx, hat⟩ := At.find S k (a + 1) (by omega) (fun e he hee => by
        by_cases e1 : e = a
        · subst e1
          cases hs : S e with
          | true => rfl
          | false => exact absurd ⟨hee, hs⟩ hc
        · exact h e (by omega) hee)
      exact ⟨x, by omega, hat⟩

theorem looks_same (T : Text E call f ops N st) (Z : Stat E.A f id ops ms) {S : Nat → Bool} (hS : ClosedS ops ms S) {i : Nat} {o : Oper} (hiN : i ≤ N) (ho : ops[i]? = some o) (hn : S i = false) (hb : ∀ b, (ms.getD i 0).testBit b = true → S b = true) :
    ∀ t ∈ o.looksAt ops, get (st i).r t = get (mixR ops S (st 0).r (st N).r) t := by
  intro t ht
  have hi := (Array.getElem?_eq_some_iff.1 ho).1
  by_cases hl : t < (st 0).r.length
  · rw [mixR_get hl]
    by_cases hc : ∃ j, dstAt ops j = some t
    · obtain ⟨j, hj⟩ := hc
      rcases Z.look i o j t ho ht hj with hbit | hbit
      · have hji := Z.lt ho hbit
        rw [if_pos ⟨j, hb j hbit, hj⟩]
        refine (T.keep' (by omega) (Nat.le_refl _) (fun k h1 h2 e => ?_)).symm
        have := Z.dst k j t e hj
        omega
      · obtain ⟨q, hq, _, hjl⟩ := dstAt_lt hj
        have hij := Z.lt hq hbit
        rw [if_neg]
        · refine T.keep' (by omega) (by omega) (fun k h1 h2 e => ?_)
          have := Z.dst k j t e hj
          omega
        · rintro ⟨k, hk, hkt⟩
          have := Z.dst k j t hkt hj
          subst this
          have := hS k hjl hk i hbit
          rw [hn] at this; simp at this
    · rw [if_neg (fun ⟨j, _, hj⟩ => hc ⟨j, hj⟩)]
      exact T.keep' (by omega) (by omega) (fun k _ _ e => hc ⟨k, e⟩)
  · have hl' : (st 0).r.length ≤ t := Nat.le_of_not_lt hl
    have e1 : get (mixR ops S (st 0).r (st N).r) t = .dead := get_out (by rw [mixR_len]; exact hl')
    rw [e1, get_out (by rw [T.len i (by omega)]; exact hl')]

/-- Nothing is deferred in a drawn region. -/
theorem opStep_def {o : Oper} {s s' : St} (hd : isDefer o = false) (h : opStep E call f ops o s = some (.norm, s')) : s'.d = s.d := by
  unfold opStep at h
  split at h
  · simp at h
  · simp only [Option.some.injEq, Prod.mk.injEq, true_and] at h; rw [← h]
  · split at h
    · simp [deferP_none hd] at h
    · simp only [Option.some.injEq, Prod.mk.injEq, true_and] at h; rw [← h]
    · simp at h
    · split at h
      · simp at h
      · simp only [Option.some.injEq, Prod.mk.injEq, true_and] at h; rw [← h]
      · simp at h
theorem defs_same (T : Text E call f ops N st) (Z : Stat E.A f id ops ms) (n : Nat) (hn : n ≤ N) : (st n).d = (st 0).d := by
  induction n with
  | zero => rfl
  | succ n ih =>
    have ho := Array.getElem?_eq_getElem (show n < ops.size by have := T.le; omega)
    rw [opStep_def (Z.nod n _ ho) (T.step n _ (by omega) ho), ih (by omega)]

/-- The registers, one operation later. -/
theorem mix_put (T : Text E call f ops N st) (Z : Stat E.A f id ops ms) {S : Nat → Bool} {i : Nat} {o : Oper} (hiN : i < N) (ho : ops[i]? = some o) {v : PV} (hv : (st (i + 1)).r = putD (st i).r o.dst v) :
    putD (mixR ops S (st 0).r (st N).r) o.dst v = mixR ops (fun j => S j || j == i) (st 0).r (st N).r := by
  have hi := (Array.getElem?_eq_some_iff.1 ho).1
  have hdst : dstAt ops i = o.dst := by simp [dstAt, ho]
  refine regs_ext (by rw [putD_len, mixR_len, mixR_len]) (fun t ht => ?_)
  rw [putD_len, mixR_len] at ht
  rw [mixR_get ht]
  by_cases hd : o.dst = some t
  · rw [if_pos ⟨i, by simp, by rw [hdst, hd]⟩, hd, get_putD_eq (by rw [mixR_len]; exact ht)]
    have h1 : get (st (i + 1)).r t = v := by
      rw [hv, hd, get_putD_eq (by rw [T.len i (by omega)]; exact ht)]
    rw [← h1]
    refine (T.keep' (by omega) (Nat.le_refl _) (fun k h1 h2 e => ?_)).symm
    have := Z.dst k i t e (by rw [hdst, hd])
    omega
  · rw [get_putD_ne hd, mixR_get ht]
    by_cases hc : ∃ j, S j = true ∧ dstAt ops j = some t
    · obtain ⟨j, h1, h2⟩ := hc
      rw [if_pos ⟨j, h1, h2⟩, if_pos ⟨j, by simp [h1], h2⟩]
    · rw [if_neg hc, if_neg]
      rintro ⟨j, h1, h2⟩
      simp only [Bool.or_eq_true, beq_iff_eq] at h1
      rcases h1 with h1 | rfl
      · exact hc ⟨j, h1, h2⟩
      · rw [hdst] at h2; exact hd h2

theorem draw_step (T : Text E call f ops N st) (Z : Stat E.A f id ops ms) (hN : N = ops.size ∨ effO E.A f ops N = true) (hdyn : ∀ (i : Nat) (o : Oper) (x : Nat), i < N → x ≤ N → ops[i]? = some o → x ∈ floOf E.A f id i → wantedP ops (st i).r o = some true → dyn1 E f o (st i).r (st (i + 1)).r (st x).m = true)
    {S : Nat → Bool} (hS : ClosedS ops ms S) (hSN : ∀ j, j < ops.size → S j = true → j < N) {x : Nat} (hx : At E f ops N S x) {i : Nat} {o : Oper} (hiN : i < N) (ho : ops[i]? = some o) (hn : S i = false) (hr : ∀ j ∈ edgesOf o, S j = true) :
    ∃ x', At E f ops N (fun j => S j || j == i) x' ∧
      opStep E call f ops o ⟨mixR ops S (st 0).r (st N).r, (st x).m, (st 0).d⟩ = some (.norm, ⟨mixR ops (fun j => S j || j == i) (st 0).r (st N).r, (st x').m, (st 0).d⟩) := by
  have hi := (Array.getElem?_eq_some_iff.1 ho).1
  have hb := Z.before hS ho hr
  have hlook := looks_same T Z hS (by omega) ho hn hb
  have hstep := T.step i o hiN ho
  by_cases he : effO E.A f ops i = true
  · -- an effect: it is its turn
    have hxi : x = i := by
      rcases Nat.lt_trichotomy x i with h | h | h
      · rcases hx.here with h' | ⟨h1, h2⟩
        · omega
        · have := hb x (Z.eff i x he h1 h); rw [h2] at this; simp at this
      · exact h
      · have := hx.before i h he; rw [hn] at this; simp at this
    subst hxi
    have hstep0 : opStep E call f ops o ⟨(st x).r, (st x).m, (st 0).d⟩ = some (.norm, st (x + 1)) := by
      rw [← defs_same T Z x (by omega)]; exact hstep
    obtain ⟨_, v, hv, hs⟩ := opStep_congr (r := (st x).r) (m := (st x).m) hlook (deferP_none (Z.nod x o ho)) hstep0
    obtain ⟨x', hx', hat⟩ := At.find (E := E) (f := f) (ops := ops) (N := N) (fun j => S j || j == x) (N - (x + 1)) (x + 1) (by omega) (fun e h1 h2 => by
      by_cases e1 : e = x
      · simp [e1]
      · simp [hx.before e (by omega) h2])
    refine ⟨x', hat, ?_⟩
    rw [hs, mix_put T Z hiN ho hv]
    have hm : (st x').m = (st (x + 1)).m := by
      refine T.mem hx' hat.le (fun j h1 h2 => ?_)
      cases hj : effO E.A f ops j with
      | false => rfl
      | true =>
        have := hat.before j h2 hj
        simp only [Bool.or_eq_true, beq_iff_eq] at this
        rcases this with h | h
        · obtain ⟨_, _, _, hjl⟩ := effO_lt hj
          have := hS j hjl h x (Z.eff j x hj he (by omega))
          rw [hn] at this; simp at this
        · omega
    rw [hm]
  · -- nothing but a value
    have hef : effO E.A f ops i = false := by simpa using he
    have hp : pureO E.A f o = true := by simpa [effO, ho] using hef
    have hat : At E f ops N (fun j => S j || j == i) x := by
      refine ⟨hx.le, fun e h1 h2 => by simp [hx.before e h1 h2], ?_⟩
      rcases hx.here with h | ⟨h1, h2⟩
      · exact .inl h
      · refine .inr ⟨h1, ?_⟩
        have : x ≠ i := fun e => by rw [e] at h1; exact he h1
        simp [h2, this]
    refine ⟨x, hat, ?_⟩
    have hw := wantedP_congr (o := o) (ops := ops) hlook
    have hg := gop_congr (P := E.P) (A := E.A) (f := f) (m := (st i).m) (geval_congr (G := E.G) (o := o) (ops := ops) hlook)
    have hgn := gop_congr (P := E.P) (A := E.A) (f := f) (m := (st x).m) (geval_congr (G := E.G) (o := o) (ops := ops) hlook)
    unfold opStep at hstep ⊢
    rw [← hw]
    split at hstep
    · simp at hstep
    · rename_i hwf
      simp only [Option.some.injEq, Prod.mk.injEq, true_and] at hstep
      simp only [hwf]
      rw [mix_put T Z hiN ho (v := .tup []) (by rw [← hstep])]
    · rename_i hwt
      simp only [hwt]
      split at hstep
      · simp [deferP_none (Z.nod i o ho)] at hstep
      · rename_i v m hgo
        simp only [Option.some.injEq, Prod.mk.injEq, true_and] at hstep
        obtain ⟨u, hu⟩ := pure_mem hp hgo
        simp only [Out.val.injEq] at hu
        obtain ⟨rfl, rfl⟩ := hu
        rw [hg] at hgo
        have hmain : ∃ v', gop E.P E.A f (geval E.G (mixR ops S (st 0).r (st N).r)) o (st x).m = some (.val v' (st x).m) ∧ putD (mixR ops S (st 0).r (st N).r) o.dst v' = putD (mixR ops S (st 0).r (st N).r) o.dst v := by
          by_cases hid : indepO E.A f o = true
          · exact ⟨v, indep_any hid hgo, rfl⟩
          · have hc : condM E.A f ops ms x i = true := by
              simp only [condM, List.all_eq_true, List.mem_range, Bool.or_eq_true, Bool.not_eq_true']
              intro e hel
              cases hee : effO E.A f ops e with
              | false => exact .inl rfl
              | true =>
                refine .inr ?_
                split
                · rename_i hxe
                  cases hbit : (ms.getD i 0).testBit e with
                  | false => rfl
                  | true =>
                    exfalso
                    have hse := hb e hbit
                    rcases hx.here with h | ⟨h1, h2⟩
                    · have := hSN e hel hse; omega
                    · by_cases e1 : e = x
                      · subst e1; rw [h2] at hse; simp at hse
                      · have := hS e hel hse x (Z.eff e x hee h1 (by omega))
                        rw [h2] at this; simp at this
                · rename_i hxe
                  cases hbit : (ms.getD e 0).testBit i with
                  | false => rfl
                  | true =>
                    exfalso
                    have := hS e hel (hx.before e (by omega) hee) i hbit
                    rw [hn] at this; simp at this
            have hxs : x ≤ ops.size := Nat.le_trans hx.le T.le
            rcases Z.cov i o x ho hef (by simpa using hid) hxs (by rcases hx.here with h | h; (rw [h]; exact hN); exact .inr h.1) hc with h | h
            · have hmx : (st x).m = (st i).m := by
                simp only [nextM, Bool.and_eq_true, decide_eq_true_eq, List.all_eq_true, List.mem_range, Bool.not_eq_true'] at h
                refine T.mem h.1 hx.le (fun j h1 h2 => ?_)
                have hjl : j < ops.size := by omega
                have := h.2 j hjl
                simp only [h1, h2, decide_true, Bool.and_true] at this
                exact this
              exact ⟨v, by rw [hmx]; exact hgo, rfl⟩
            · have hd := hdyn i o x hiN hx.le ho h hwt
              unfold dyn1 at hd
              split at hd
              · rename_i v' m' hgo'
                obtain ⟨u, hu⟩ := pure_mem hp hgo'
                simp only [Out.val.injEq] at hu
                obtain ⟨rfl, rfl⟩ := hu
                refine ⟨v', by rw [← hgn]; exact hgo', ?_⟩
                split at hd
                · rename_i d hdd
                  have hsame := same_eq _ _ hd
                  by_cases hdl : d < (st 0).r.length
                  · have h1 : get (st (i + 1)).r d = v := by
                      rw [← hstep, hdd, get_putD_eq (by rw [T.len i (by omega)]; exact hdl)]
                    rw [hsame, h1]
                  · have hl' : (st 0).r.length ≤ d := Nat.le_of_not_lt hdl
                    rw [hdd]
                    simp only [putD, put_set]
                    rw [List.set_eq_of_length_le (by rw [mixR_len]; exact hl'), List.set_eq_of_length_le (by rw [mixR_len]; exact hl')]
                · rename_i hdd; rw [hdd]; rfl
              · simp at hd
        obtain ⟨v', h1, h2⟩ := hmain
        simp only [h1, h2]
        rw [mix_put T Z hiN ho (by rw [← hstep])]
      · simp at hstep
      · rename_i hgo
        obtain ⟨u, hu⟩ := pure_mem hp hgo
        simp at hu
end
end Go.Gm
