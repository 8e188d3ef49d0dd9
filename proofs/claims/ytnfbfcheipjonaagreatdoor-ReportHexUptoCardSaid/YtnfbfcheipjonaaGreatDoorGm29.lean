/- The ghost machine, part 29: more fuel gives the same. -/
import Derived.Test.YtnfbfcheipjonaaGreatDoorGm28
set_option linter.unusedSimpArgs false
set_option linter.unusedVariables false
namespace Go.Gm

abbrev CallF := FuncId → List PV → Mem → Option (CRes × Mem)
def CallF.le (a b : CallF) : Prop := ∀ g as m x, a g as m = some x → b g as m = some x

section
variable {E : Env} {a b : CallF} (h : CallF.le a b) {f : FuncId}
include h
theorem opStep_le {ops : Array Oper} {o : Oper} {s : St} {x : Ex × St} (hx : opStep E a f ops o s = some x) : opStep E b f ops o s = some x := by
  unfold opStep at hx ⊢
  cases hw : wantedP ops s.r o with
  | none => simp [hw] at hx
  | some t =>
    cases t with
    | false => simpa only [hw] using hx
    | true =>
      simp only [hw] at hx ⊢
      cases hg : gop E.P E.A f (geval E.G s.r) o s.m with
      | none => simpa only [hg] using hx
      | some out =>
        cases out with
        | val v m => simpa only [hg] using hx
        | panic v => simpa only [hg] using hx
        | enter g as =>
          simp only [hg] at hx ⊢
          cases hc : a g as s.m with
          | none => simp [hc] at hx
          | some y => rw [h _ _ _ _ hc]; simpa only [hc] using hx
theorem opSteps_le {ops : Array Oper} : ∀ (l : List Oper) (s : St) (x : Ex × St), opSteps E a f ops l s = some x → opSteps E b f ops l s = some x
  | [], s, x, hx => hx
  | o :: rest, s, x, hx => by
    unfold opSteps at hx ⊢
    split at hx
    · rename_i s' hs
      rw [opStep_le h hs]
      exact opSteps_le rest s' x hx
    · rename_i hne
      rw [opStep_le h hx]
      obtain ⟨e, s'⟩ := x
      cases e with
      | norm => exact (hne _ hx).elim
      | _ => rfl
theorem runT_le {ops : Array Oper} : ∀ (l : List Oper) (s : St) (x : List St), runT E a f ops l s = some x → runT E b f ops l s = some x
  | [], s, x, hx => hx
  | o :: rest, s, x, hx => by
    unfold runT at hx ⊢
    split at hx
    · rename_i s' hs
      rw [opStep_le h hs]
      split at hx
      · rename_i l hl
        simp only [runT_le rest s' l hl]
        exact hx
      · simp at hx
    · simp at hx
theorem runP_le {ops : Array Oper} : ∀ (l : List Oper) (s : St) (x : List St × PV × Mem), runP E a f ops l s = some x → runP E b f ops l s = some x ∧ runT E b f ops l s = none
  | [], s, x, hx => by simp [runP] at hx
  | o :: rest, s, x, hx => by
    unfold runP at hx ⊢
    unfold runT
    split at hx
    · rename_i s' hs
      rw [opStep_le h hs]
      split at hx
      · rename_i l y hl
        obtain ⟨h1, h2⟩ := runP_le rest s' _ hl
        simp only [h1, h2]
        exact ⟨hx, trivial⟩
      · simp at hx
    · rename_i v s' hs
      rw [opStep_le h hs]
      exact ⟨hx, rfl⟩
    · simp at hx
theorem drawE_le {id : Nat} {ops : Array Oper} {s : St} {x : Ex × St} (hx : drawE E a f id ops s = some x) : drawE E b f id ops s = some x := by
  unfold drawE at hx ⊢
  split at hx
  · simp at hx
  · rename_i hk
    rw [if_neg hk]
    split at hx
    · unfold drawP at hx ⊢
      split at hx
      · simp at hx
      · rename_i sts v m hl
        obtain ⟨h1, h2⟩ := runP_le h _ _ _ hl
        simp only [h1, h2]
        exact hx
    · rename_i l hl
      rw [runT_le h _ _ _ hl]
      exact hx
omit h in
theorem iter_le {p q : St → Option (Ex × St)} (hpq : ∀ s x, p s = some x → q s = some x) : ∀ (n k : Nat) (s : St) (x : Ex × St), n ≤ k → iter p n s = some x → iter q k s = some x
  | 0, k, s, x, hk, hx => by simp [iter] at hx
  | n + 1, 0, s, x, hk, hx => by omega
  | n + 1, k + 1, s, x, hk, hx => by
    unfold iter at hx ⊢
    split at hx
    · rename_i s' hs
      rw [hpq _ _ hs]
      exact iter_le hpq n k s' x (by omega) hx
    · rename_i hne
      rw [hpq _ _ hx]
      obtain ⟨e, s'⟩ := x
      cases e with
      | norm => exact (hne _ hx).elim
      | _ => rfl
theorem exec_le {n k : Nat} (hnk : n ≤ k) : ∀ (c : Code) (s : St) (x : Ex × St), exec E a (drawE E a) n f c s = some x → exec E b (drawE E b) k f c s = some x
  | .skip, s, x, hx => hx
  | .region id ops false, s, x, hx => by simp only [exec] at hx ⊢; exact opSteps_le h _ _ _ hx
  | .region id ops true, s, x, hx => by simp only [exec] at hx ⊢; exact drawE_le h hx
  | .seq c d, s, x, hx => by
    simp only [exec] at hx ⊢
    split at hx
    · rename_i s' hs
      rw [exec_le hnk c s _ hs]
      exact exec_le hnk d s' x hx
    · rename_i hne
      rw [exec_le hnk c s _ hx]
      obtain ⟨e, s'⟩ := x
      cases e with
      | norm => exact (hne _ hx).elim
      | _ => rfl
  | .cond o c d, s, x, hx => by
    simp only [exec] at hx ⊢
    split at hx
    · exact exec_le hnk c s x hx
    · exact exec_le hnk d s x hx
    · simp at hx
  | .block id c, s, x, hx => by
    simp only [exec] at hx ⊢
    split at hx
    · rename_i j s' hs
      rw [exec_le hnk c s _ hs]
      exact hx
    · rename_i hne
      rw [exec_le hnk c s _ hx]
      obtain ⟨e, s'⟩ := x
      cases e with
      | exit j => exact (hne _ _ hx).elim
      | _ => rfl
  | .loop c, s, x, hx => by
    simp only [exec] at hx ⊢
    exact iter_le (fun s x hx => exec_le hnk c s x hx) n k s x hnk hx
  | .exit id, s, x, hx => hx
  | .ret, s, x, hx => hx
  | .goto _, s, x, hx | .label _, s, x, hx | .scope _, s, x, hx | .refuse _, s, x, hx | .rangeFunc .., s, x, hx => by simp [exec] at hx
end

theorem iso_le {p q : List PV → Mem → Option (CRes × Mem)} (h : ∀ as m x, p as m = some x → q as m = some x) {as : List PV} {m : Mem} {x : CRes × Mem} (hx : iso p as m = some x) : iso q as m = some x := by
  unfold iso at hx ⊢
  simp only at hx ⊢
  split at hx
  · rename_i hc
    rw [if_pos hc]
    split at hx
    · simp at hx
    · rename_i r m' hp
      rw [h _ _ _ hp]
      exact hx
  · simp at hx

section
variable {E : Env} {a b : CallF} (h : CallF.le a b) {f : FuncId}
include h
theorem opStepsS_le {ops : Array Oper} : ∀ (l : List Oper) (s : St) (u : RC) (x : Ex × St × RC), opStepsS E a f ops l s u = some x → opStepsS E b f ops l s u = some x
  | [], s, u, x, hx => hx
  | o :: rest, s, u, x, hx => by
    unfold opStepsS at hx ⊢
    by_cases hr : isRec o = true
    · simp only [hr, if_true] at hx ⊢
      cases hw : wantedP ops s.r o with
      | none => simp [hw] at hx
      | some t =>
        cases t with
        | false => simp [hw] at hx
        | true =>
          simp only [hw] at hx ⊢
          cases u with
          | pan v => exact opStepsS_le rest _ _ x hx
          | ret => exact opStepsS_le rest _ _ x hx
          | done v => exact opStepsS_le rest _ _ x hx
    · simp only [hr, if_false, Bool.false_eq_true] at hx ⊢
      cases hs : opStep E a f ops o s with
      | none => simp [hs] at hx
      | some y =>
        rw [opStep_le h hs]
        obtain ⟨e, s'⟩ := y
        simp only [hs] at hx
        cases e with
        | norm => exact opStepsS_le rest _ _ x hx
        | _ => exact hx
theorem execS_le {n k : Nat} (hnk : n ≤ k) : ∀ (c : Code) (s : St) (u : RC) (x : Ex × St × RC), execS E a (drawE E a) n f c s u = some x → execS E b (drawE E b) k f c s u = some x
  | .region id ops false, s, u, x, hx => by simp only [execS] at hx ⊢; exact opStepsS_le h _ _ _ _ hx
  | .seq c d, s, u, x, hx => by
    simp only [execS] at hx ⊢
    cases hs : execS E a (drawE E a) n f c s u with
    | none => simp [hs] at hx
    | some y =>
      rw [execS_le hnk c s u _ hs]
      obtain ⟨e, s', u'⟩ := y
      simp only [hs] at hx
      cases e with
      | norm => exact execS_le hnk d s' u' x hx
      | _ => exact hx
  | .cond o c d, s, u, x, hx => by
    simp only [execS] at hx ⊢
    split at hx
    · exact execS_le hnk c s u x hx
    · exact execS_le hnk d s u x hx
    · simp at hx
  | .region id ops true, s, u, x, hx | .skip, s, u, x, hx | .block _ _, s, u, x, hx | .loop _, s, u, x, hx | .exit _, s, u, x, hx | .ret, s, u, x, hx | .goto _, s, u, x, hx | .label _, s, u, x, hx | .scope _, s, u, x, hx | .refuse _, s, u, x, hx | .rangeFunc .., s, u, x, hx => by
    simp only [execS] at hx ⊢
    split at hx
    · rename_i e s' he
      rw [exec_le h hnk _ _ _ he]
      exact hx
    · simp at hx
theorem evD_le {n k : Nat} (hnk : n ≤ k) {u : RC} {as : List PV} {m : Mem} {x : CRes × Mem} (hx : evD E (drawE E a) a n f u as m = some x) : evD E (drawE E b) b k f u as m = some x := by
  unfold evD at hx ⊢
  split at hx
  · simp at hx
  · rename_i fn hf
    split at hx
    · simp at hx
    · rename_i c hb
      cases he : execS E a (drawE E a) n f c ⟨as ++ List.replicate (fn.ntmps - as.length) .dead, m, []⟩ u with
      | none => simp [he] at hx
      | some y => rw [execS_le h hnk _ _ _ _ he]; simp only [he] at hx; exact hx
end
theorem leaveP_le {p q : FuncId → RC → List PV → Mem → Option (CRes × Mem)} (hpq : ∀ f u as m x, p f u as m = some x → q f u as m = some x) : ∀ (l : List (FuncId × List PV)) (u : RC) (m : Mem) (x : RC × Mem), leaveP p l u m = some x → leaveP q l u m = some x
  | [], u, m, x, hx => hx
  | d :: ds, u, m, x, hx => by
    unfold leaveP at hx ⊢
    cases hc : p d.1 u d.2 m with
    | none => simp [hc] at hx
    | some y =>
      rw [hpq _ _ _ _ _ hc]
      simp only [hc] at hx
      obtain ⟨r, m'⟩ := y
      cases r with
      | panic v => simp at hx
      | ret v =>
        simp only at hx ⊢
        split at hx
        · exact leaveP_le hpq ds _ _ x hx
        · simp at hx

/-- The call that a function's code makes, at a depth. -/
def callN (E : Env) (n : Nat) : CallF := fun g as m => iso (run E n g) as m

theorem run_le {E : Env} : ∀ (n k : Nat) (g : FuncId) (as : List PV) (m : Mem) (x : CRes × Mem), n ≤ k → run E n g as m = some x → run E k g as m = some x
  | 0, k, g, as, m, x, hk, hx => by simp [run, ev] at hx
  | n + 1, 0, g, as, m, x, hk, hx => by omega
  | n + 1, k + 1, g, as, m, x, hk, hx => by
    have hcall : CallF.le (fun g as m => iso (ev E (drawE E) n g) as m) (fun g as m => iso (ev E (drawE E) k g) as m) := fun g as m x hx => iso_le (fun as m x hx => run_le n k g as m x (by omega) hx) hx
    have hcD : ∀ (h : FuncId) (u : RC) (as : List PV) (m : Mem) (x : CRes × Mem),
        (if refs (rcP u) = [] then iso (evD E (drawE E fun g as m => iso (ev E (drawE E) n g) as m) (fun g as m => iso (ev E (drawE E) n g) as m) n h u) as m else none) = some x →
        (if refs (rcP u) = [] then iso (evD E (drawE E fun g as m => iso (ev E (drawE E) k g) as m) (fun g as m => iso (ev E (drawE E) k g) as m) k h u) as m else none) = some x := by
      intro h u as m x hx
      split at hx
      · rename_i hu
        rw [if_pos hu]
        exact iso_le (fun as m x hx => evD_le hcall (by omega) hx) hx
      · simp at hx
    simp only [run] at hx ⊢
    unfold ev at hx ⊢
    split at hx
    · exact hx
    · split at hx
      · simp at hx
      · rename_i fn hf
        split at hx
        · simp at hx
        · rename_i c hb
          dsimp only at hx ⊢
          cases he : exec E (fun g as m => iso (ev E (drawE E) n g) as m) (drawE E fun g as m => iso (ev E (drawE E) n g) as m) n g c ⟨as ++ List.replicate (fn.ntmps - as.length) .dead, m, []⟩ with
          | none => simp [he] at hx
          | some y =>
            rw [exec_le (k := k) hcall (by omega) c _ _ he]
            simp only [he] at hx
            obtain ⟨e, s1⟩ := y
            have hout : ∀ (u : RC), (match leaveP (fun h u as m => if refs (rcP u) = [] then iso (evD E (drawE E fun g as m => iso (ev E (drawE E) n g) as m) (fun g as m => iso (ev E (drawE E) n g) as m) n h u) as m else none) s1.d u s1.m with
                | some (.ret, m1) => match resP E.P ⟨s1.r, m1, []⟩ fn.results.toList with
                  | none => none
                  | some l =>
                    if E.A.keep g then some (.ret (packP l), m1)
                    else match Gm.frz m1 m.length (packP l) with
                      | some v => some (.ret v, killed m.length m1 (packP l))
                      | none => none
                | some (.pan v, m1) => some (.panic v, m1)
                | _ => none) = some x →
                (match leaveP (fun h u as m => if refs (rcP u) = [] then iso (evD E (drawE E fun g as m => iso (ev E (drawE E) k g) as m) (fun g as m => iso (ev E (drawE E) k g) as m) k h u) as m else none) s1.d u s1.m with
                | some (.ret, m1) => match resP E.P ⟨s1.r, m1, []⟩ fn.results.toList with
                  | none => none
                  | some l =>
                    if E.A.keep g then some (.ret (packP l), m1)
                    else match Gm.frz m1 m.length (packP l) with
                      | some v => some (.ret v, killed m.length m1 (packP l))
                      | none => none
                | some (.pan v, m1) => some (.panic v, m1)
                | _ => none) = some x := by
              intro u hx
              cases hl : leaveP (fun h u as m => if refs (rcP u) = [] then iso (evD E (drawE E fun g as m => iso (ev E (drawE E) n g) as m) (fun g as m => iso (ev E (drawE E) n g) as m) n h u) as m else none) s1.d u s1.m with
              | none => simp [hl] at hx
              | some y =>
                rw [leaveP_le hcD _ _ _ _ hl]
                simp only [hl] at hx
                exact hx
            cases e with
            | norm => exact hout .ret hx
            | ret => exact hout .ret hx
            | panic v => exact hout (.pan v) hx
            | exit j => simp at hx
end Go.Gm
