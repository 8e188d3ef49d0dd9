/- The ghost machine, part 17: a function's code. -/
import Derived.Test.YtnfbfcheipjonaaGreatDoorGm16
set_option linter.unusedSimpArgs false
set_option linter.unusedVariables false
namespace Go.Gm

/-- What follows a round of a loop. -/
def RoundWp (P : Program) (c : Code) (Q : Exit → Act → World → Prop) (a : Act) (w : World) : Prop :=
  ∀ (b : Frame) (k : List Item) (cs : List Frame), ∃ e a' w', Q e a' w' ∧ Arrives P (lone (b.at a (.inLoop c :: k)) cs w) b k cs e a' w'
section
variable {P : Program} {c : Code} {Q : Exit → Act → World → Prop} {a : Act} {w : World}
theorem round_arrives (h : c.wp P (Exit.then (RoundWp P c Q) Q) a w) (b : Frame) (k : List Item) (cs : List Frame) :
    ∃ e a' w', Q e a' w' ∧ Arrives P (lone (b.at a (.code c :: .inLoop c :: k)) cs w) b k cs e a' w' := by
  obtain ⟨e, a1, w1, hq, harr⟩ := h b (.inLoop c :: k) cs
  cases e with
  | normal =>
    obtain ⟨e2, a2, w2, hq2, harr2⟩ := hq b k cs
    exact ⟨e2, a2, w2, hq2, .of_steps harr harr2⟩
  | exit id => exact ⟨_, a1, w1, hq, .pass (x := .inLoop c) rfl (fun _ _ => .inl (by simp)) harr⟩
  | goto l => exact ⟨_, a1, w1, hq, .pass (x := .inLoop c) rfl (fun _ _ => .inl (by simp)) harr⟩
  | ret => exact ⟨_, a1, w1, hq, .pass (x := .inLoop c) rfl (fun _ _ => .inl (by simp)) harr⟩
  | panic ch => exact ⟨_, a1, w1, hq, .pass (x := .inLoop c) rfl (fun _ _ => .inl (by simp)) harr⟩
  | outgrown => exact ⟨_, a1, w1, hq, .pass (x := .inLoop c) rfl (fun _ _ => .inl (by simp)) harr⟩
theorem wp_loop_first (h : c.wp P (Exit.then (RoundWp P c Q) Q) a w) : (Code.loop c).wp P Q a w := by
  intro b k cs
  obtain ⟨e, a', w', hq, harr⟩ := round_arrives h b k cs
  exact ⟨e, a', w', hq, .of_steps (.one step_loop) harr⟩
theorem round_next (h : c.wp P (Exit.then (RoundWp P c Q) Q) a w) : RoundWp P c Q a w := by
  intro b k cs
  obtain ⟨e, a', w', hq, harr⟩ := round_arrives h b k cs
  exact ⟨e, a', w', hq, .of_steps (.one step_inLoop) harr⟩
end

section
variable {E : Env} {call : FuncId → List PV → Mem → Option (CRes × Mem)} {draw : FuncId → Nat → Array Oper → St → Option (Ex × St)} {f : FuncId}

/-- A piece of code, and a way to compute it. -/
def CodeOK (E : Env) (c : Code) (run : St → Option (Ex × St)) : Prop :=
  ∀ (σ : Sig) (s : St) (e : Ex) (s' : St) (a : Act) (w : World), Sim σ s.m w → GOK E σ → Regs σ s a → run s = some (e, s') → c.wp E.P (Ends σ w e s') a w

theorem iter_round {c : Code} {body : St → Option (Ex × St)} (hb : CodeOK E c body) : ∀ (n : Nat) (σ : Sig) (s : St) (e : Ex) (s' : St) (a : Act) (w : World), Sim σ s.m w → GOK E σ → Regs σ s a → iter body n s = some (e, s') →
    c.wp E.P (Exit.then (RoundWp E.P c (Ends σ w e s')) (Ends σ w e s')) a w
  | 0, σ, s, e, s', a, w, hs, hg, hr, h => by simp [iter] at h
  | n + 1, σ, s, e, s', a, w, hs, hg, hr, h => by
    unfold iter at h
    split at h
    · rename_i s1 h1
      refine wp_mono (hb σ s _ _ a w hs hg hr h1) (fun x a' w' q => ?_)
      obtain ⟨σ', h2, h3, h4, h5, h6⟩ := q
      cases x <;> simp only [Meets] at h6
      simp only [Exit.then]
      refine round_next (wp_mono (iter_round hb n σ' s1 e s' a' w' h4 (hg.mono h2) h5 h) (fun x a2 w2 q => ?_))
      cases x <;> simp only [Exit.then] at q ⊢
      · intro b k cs
        obtain ⟨e, a3, w3, hq, harr⟩ := q b k cs
        exact ⟨e, a3, w3, hq.later h2 h3, harr⟩
      all_goals exact q.later h2 h3
    · rename_i hne
      refine wp_mono (hb σ s _ _ a w hs hg hr h) (fun x a' w' q => ?_)
      have q' := q
      obtain ⟨σ', h2, h3, h4, h5, h6⟩ := q
      cases x <;> simp only [Exit.then] <;> first
        | exact q'
        | (cases e <;> simp only [Meets] at h6
           exact (hne _ h).elim)

/-- Every drawn region of a piece of code. -/
def allDraw (p : Nat → Array Oper → Bool) : Code → Bool
  | .region id ops true => p id ops
  | .seq a b => allDraw p a && allDraw p b
  | .cond _ a b => allDraw p a && allDraw p b
  | .block _ c => allDraw p c
  | .loop c => allDraw p c
  | _ => true

theorem exec_sound (hc : CallOK E call) {p : Nat → Array Oper → Bool} (hd : ∀ id ops, p id ops = true → DrawOK E draw f id ops) (n : Nat) : ∀ c : Code, allDraw p c = true → CodeOK E c (exec E call draw n f c)
  | .skip, _ => by
    intro σ s e s' a w hs hg hr h
    simp only [exec, Option.some.injEq, Prod.mk.injEq] at h
    obtain ⟨rfl, rfl⟩ := h
    exact wp_skip ⟨σ, .refl _ _, .refl _ _, hs, hr, trivial⟩
  | .region id ops false, had => by
    intro σ s e s' a w hs hg hr h
    simp only [exec] at h
    exact wp_region_list (opSteps_sound hc _ σ a w s e s' hs hg hr h)
  | .region id ops true, had => by
    intro σ s e s' a w hs hg hr h
    simp only [exec] at h
    exact hd id ops had σ s e s' a w hs hg hr h
  | .seq x y, had => by
    intro σ s e s' a w hs hg hr h
    simp only [allDraw, Bool.and_eq_true] at had
    have ihx := exec_sound hc hd n x had.1
    have ihy := exec_sound hc hd n y had.2
    simp only [exec] at h
    refine wp_seq ?_
    split at h
    · rename_i s1 h1
      refine wp_mono (ihx σ s _ _ a w hs hg hr h1) (fun z a' w' q => ?_)
      obtain ⟨σ', h2, h3, h4, h5, h6⟩ := q
      cases z <;> simp only [Meets] at h6
      simp only [Exit.then]
      refine wp_mono (ihy σ' s1 e s' a' w' h4 (hg.mono h2) h5 h) (fun z a2 w2 q => ?_)
      exact q.later h2 h3
    · rename_i hne
      refine wp_mono (ihx σ s _ _ a w hs hg hr h) (fun z a' w' q => ?_)
      have q' := q
      obtain ⟨σ', h2, h3, h4, h5, h6⟩ := q
      cases z <;> simp only [Exit.then] <;> first
        | exact q'
        | (cases e <;> simp only [Meets] at h6
           exact (hne _ h).elim)
  | .cond c x y, had => by
    intro σ s e s' a w hs hg hr h
    simp only [allDraw, Bool.and_eq_true] at had
    have ihx := exec_sound hc hd n x had.1
    have ihy := exec_sound hc hd n y had.2
    simp only [exec] at h
    have hv := geval_ok (a := a) hg hr.row c
    split at h
    · rename_i hb
      rw [hb] at hv
      have : a.eval c = .bool true := by generalize a.eval c = u at hv; cases hv; rfl
      exact wp_cond_true this (ihx σ s _ _ a w hs hg hr h)
    · rename_i hb
      rw [hb] at hv
      have : a.eval c = .bool false := by generalize a.eval c = u at hv; cases hv; rfl
      exact wp_cond_false this (ihy σ s _ _ a w hs hg hr h)
    · simp at h
  | .block id c, had => by
    intro σ s e s' a w hs hg hr h
    have ih := exec_sound hc hd n c had
    simp only [exec] at h
    refine wp_block ?_
    split at h
    · rename_i k s1 h1
      refine wp_mono (ih σ s _ _ a w hs hg hr h1) (fun z a' w' q => ?_)
      obtain ⟨σ', h2, h3, h4, h5, h6⟩ := q
      cases z <;> simp only [Meets] at h6
      subst h6
      simp only [Exit.inBlock]
      split at h <;> rename_i hk <;> simp only [Option.some.injEq, Prod.mk.injEq] at h <;> obtain ⟨rfl, rfl⟩ := h
      · rw [if_pos hk]; exact ⟨σ', h2, h3, h4, h5, trivial⟩
      · rw [if_neg hk]; exact ⟨σ', h2, h3, h4, h5, rfl⟩
    · rename_i hne
      refine wp_mono (ih σ s _ _ a w hs hg hr h) (fun z a' w' q => ?_)
      have q' := q
      obtain ⟨σ', h2, h3, h4, h5, h6⟩ := q
      cases z <;> simp only [Exit.inBlock] <;> first
        | exact q'
        | (cases e <;> simp only [Meets] at h6
           exact (hne _ _ h).elim)
  | .loop c, had => by
    intro σ s e s' a w hs hg hr h
    simp only [exec] at h
    exact wp_loop_first (iter_round (exec_sound hc hd n c had) n σ s e s' a w hs hg hr h)
  | .exit id, had => by
    intro σ s e s' a w hs hg hr h
    simp only [exec, Option.some.injEq, Prod.mk.injEq] at h
    obtain ⟨rfl, rfl⟩ := h
    exact wp_exit ⟨σ, .refl _ _, .refl _ _, hs, hr, rfl⟩
  | .ret, had => by
    intro σ s e s' a w hs hg hr h
    simp only [exec, Option.some.injEq, Prod.mk.injEq] at h
    obtain ⟨rfl, rfl⟩ := h
    exact wp_ret ⟨σ, .refl _ _, .refl _ _, hs, hr, trivial⟩
  | .goto _, _ | .label _, _ | .scope _, _ | .refuse _, _ | .rangeFunc .., _ => by
    intro σ s e s' a w hs hg hr h
    simp [exec] at h
end
end Go.Gm
