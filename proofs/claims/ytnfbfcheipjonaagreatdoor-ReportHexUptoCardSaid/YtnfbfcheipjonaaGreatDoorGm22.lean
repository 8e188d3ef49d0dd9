/- The ghost machine, part 22: a function, and what it deferred. What is computed is what the call does. -/
import Derived.Test.YtnfbfcheipjonaaGreatDoorGm21
import Derived.Recover
set_option linter.unusedSimpArgs false
set_option linter.unusedVariables false
namespace Go.Gm

/-- No function of that one name has a body. -/
def NumOK (P : Program) : Prop := ∀ (f : FuncId) (fn : Func), P.funcs[f]? = some fn → fn.body.isSome = true → (fn.name == "runtime.NumGoroutine") = false

theorem callFunc_enter {P : Program} (hP : NumOK P) {g : FuncId} {fn : Func} {c : Code} (hf : P.funcs[g]? = some fn) (hb : fn.body = some c) (vs : Array Value) (w : World) : (callFunc g vs).run P w = .ok (.enter g vs) w := by
  have hn := hP g fn hf (by simp [hb])
  unfold callFunc
  simp only [Sem.run_bind, run_program, Result.andThen_ok, hf, hn, hb, Option.isNone_some, Bool.false_eq_true, if_false, run_pure']

/-! ### Deferred functions -/
def modeV : FrameMode → Option Value
  | .returning => some .nilIface
  | .panicking [{ v, recovered, goexit := false }] => some (.tuple #[v, .bool recovered])
  | _ => none
def RCR (σ : Sig) (u : RC) (uF : FrameMode) : Prop := ∃ x, modeV uF = some x ∧ VR σ (rcP u) x
theorem modeV_tup {uF : FrameMode} {v : Value} {b : Bool} (h : modeV uF = some (.tuple #[v, .bool b])) : uF = .panicking [{ v, recovered := b }] := by
  unfold modeV at h
  split at h
  · simp at h
  · simp at h; obtain ⟨rfl, rfl⟩ := h; rfl
  · simp at h
theorem modeV_nil {uF : FrameMode} (h : modeV uF = some .nilIface) : uF = .returning := by
  unfold modeV at h
  split at h
  · rfl
  · simp at h
  · simp at h
theorem tup2 {σ : Sig} {p : PV} {b : Bool} {x : Value} (h : VR σ (.tup [p, .bool b]) x) : ∃ v, x = .tuple #[v, .bool b] ∧ VR σ p v := by
  cases h with
  | tup h1 h2 =>
    rename_i vs
    match vs, h1 with
    | ⟨[a, c]⟩, _ =>
      have hb := h2 1 _ c rfl rfl
      cases hb
      exact ⟨a, rfl, h2 0 _ a rfl rfl⟩
theorem tup2_mk {σ : Sig} {p : PV} {b : Bool} {v : Value} (h : VR σ p v) : VR σ (.tup [p, .bool b]) (.tuple #[v, .bool b]) := by
  refine .tup rfl (fun j q u hq hu => ?_)
  match j with
  | 0 => simp at hq hu; subst hq; subst hu; exact h
  | 1 => simp at hq hu; subst hq; subst hu; exact .bool b
  | j + 2 => simp at hq
theorem RCR.ret {σ : Sig} {uF : FrameMode} (h : RCR σ .ret uF) : uF = .returning := by
  obtain ⟨x, h1, h2⟩ := h
  cases h2
  exact modeV_nil h1
theorem RCR.pan {σ : Sig} {uF : FrameMode} {p : PV} (h : RCR σ (.pan p) uF) : ∃ v, uF = .panicking [{ v, recovered := false }] ∧ VR σ p v := by
  obtain ⟨x, h1, h2⟩ := h
  obtain ⟨v, rfl, hv⟩ := tup2 h2
  exact ⟨v, modeV_tup h1, hv⟩
theorem RCR.done {σ : Sig} {uF : FrameMode} {p : PV} (h : RCR σ (.done p) uF) : ∃ v, uF = .panicking [{ v, recovered := true }] ∧ VR σ p v := by
  obtain ⟨x, h1, h2⟩ := h
  obtain ⟨v, rfl, hv⟩ := tup2 h2
  exact ⟨v, modeV_tup h1, hv⟩
theorem RCR.settle {σ : Sig} {u : RC} {uF : FrameMode} (h : RCR σ u uF) : RCR σ u.settle (settle uF) := by
  cases u with
  | ret => rw [h.ret]; exact ⟨_, rfl, .nili⟩
  | pan p => obtain ⟨v, rfl, hv⟩ := h.pan; exact ⟨_, rfl, tup2_mk hv⟩
  | done p => obtain ⟨v, rfl, hv⟩ := h.done; exact ⟨_, rfl, .nili⟩
theorem RCR.mono {σ σ' : Sig} {w : World} {u : RC} {uF : FrameMode} (h : RCR σ u uF) (he : Ext σ w σ') : RCR σ' u uF := by
  obtain ⟨x, h1, h2⟩ := h; exact ⟨x, h1, h2.mono he⟩
theorem rcU_rcP {p : PV} {u : RC} (h : rcU p = some u) : rcP u = p := by
  unfold rcU at h
  split at h
  · simp at h; subst h; rfl
  · rename_i v b
    cases b <;> simp at h <;> subst h <;> rfl
  · simp at h

def EndsS (σ : Sig) (w : World) (c0 : Frame) (cs : List Frame) (e : Ex) (s : St) (u : RC) (x : Exit) (a : Act) (cs' : List Frame) (w' : World) : Prop :=
  ∃ σ', Ext σ w σ' ∧ Frm σ w w' ∧ Sim σ' s.m w' ∧ Regs σ' s a ∧ Meets σ' e x ∧ ∃ uF, cs' = { c0 with mode := uF } :: cs ∧ RCR σ' u uF
theorem EndsS.later {σ σ1 : Sig} {w w1 : World} {c0 : Frame} {cs cs' : List Frame} {e : Ex} {s : St} {u : RC} {x : Exit} {a : Act} {w' : World} (he : Ext σ w σ1) (hf : Frm σ w w1) (h : EndsS σ1 w1 c0 cs e s u x a cs' w') : EndsS σ w c0 cs e s u x a cs' w' := by
  obtain ⟨σ', h2, h3, h4⟩ := h
  exact ⟨σ', he.trans hf h2, hf.trans he h3, h4⟩

theorem rec_run {P : Program} {w : World} {ν : Operand → Value} {o : Oper} (h : isRec o = true) : (execOp ν o).run P w = .ok .recover w := by
  unfold isRec at h
  split at h
  · rename_i c ho
    split at h
    · rename_i hc
      simp only [execOp, ho, resolve, hc, Sem.run_bind, run_pure', Result.andThen_ok, invoke, builtin]
    · simp at h
  · simp at h

theorem oper_upon_mono {P : Program} {o : Oper} {a : Act} {w : World} {K K' : Act → World → Prop} {Q Q' : Exit → Act → World → Prop} (hk : ∀ a w, K a w → K' a w) (hq : ∀ x a w, Q x a w → Q' x a w)
    (hh : o.upon P a K Q ((execOp a.eval o).run P w)) : o.upon P a K' Q' ((execOp a.eval o).run P w) := oper_wp_mono (o := o) (a := a) (w := w) hk hq hh

section
variable {E : Env} {call : FuncId → List PV → Mem → Option (CRes × Mem)} {draw : FuncId → Nat → Array Oper → St → Option (Ex × St)} {f : FuncId}

theorem wpOpsS_mono {P : Program} {ops : Array Oper} {Q Q' : Exit → Act → List Frame → World → Prop} (hq : ∀ x a cs w, Q x a cs w → Q' x a cs w) : ∀ (l : List Nat) (a : Act) (cs : List Frame) (w : World), wpOpsS P ops Q l a cs w → wpOpsS P ops Q' l a cs w
  | [], a, cs, w, h => hq _ _ _ _ h
  | i :: rest, a, cs, w, h => by
    unfold wpOpsS at h ⊢
    split
    · rename_i ho; simp only [ho] at h; exact wpOpsS_mono hq rest _ _ _ h
    · rename_i o ho
      simp only [ho] at h
      split
      · rename_i hw
        simp only [hw, if_true] at h
        split
        · rename_i w' hr
          simp only [hr] at h
          split
          · rename_i hrec; simp only [hrec] at h; exact wpOpsS_mono hq rest _ _ _ h
          · rename_i hrec; simp only [hrec] at h; exact wpOpsS_mono hq rest _ _ _ h
        · rename_i hne
          split at h
          · rename_i w' hr; exact (hne _ hr).elim
          · exact oper_upon_mono (fun a w => wpOpsS_mono hq rest a cs w) (fun x a w => hq x a cs w) h
      · rename_i hw
        simp only [hw, if_false, Bool.false_eq_true] at h
        exact wpOpsS_mono hq rest _ _ _ h

theorem opStepsS_sound (hc : CallOK E call) {ops : Array Oper} {c0 : Frame} {cs : List Frame} : ∀ (l : List Oper) (k : Nat) (σ : Sig) (a : Act) (w : World) (s : St) (u : RC) (uF : FrameMode) (e : Ex) (s' : St) (u' : RC), (∀ j, l[j]? = ops[k + j]?) → Sim σ s.m w → GOK E σ → Regs σ s a → RCR σ u uF →
    opStepsS E call f ops l s u = some (e, s', u') → wpOpsS E.P ops (EndsS σ w c0 cs e s' u') (List.range' k l.length) a ({ c0 with mode := uF } :: cs) w
  | [], k, σ, a, w, s, u, uF, e, s', u', hl, hs, hg, hr, hu, h => by
    simp only [opStepsS, Option.some.injEq, Prod.mk.injEq] at h
    obtain ⟨rfl, rfl, rfl⟩ := h
    exact ⟨σ, .refl _ _, .refl _ _, hs, hr, trivial, uF, rfl, hu⟩
  | o :: rest, k, σ, a, w, s, u, uF, e, s', u', hl, hs, hg, hr, hu, h => by
    have ho : ops[k]? = some o := by simpa using (hl 0).symm
    have hl' : ∀ j, rest[j]? = ops[k + 1 + j]? := fun j => by have := hl (j + 1); simpa [Nat.add_assoc, Nat.add_comm 1 j] using this
    simp only [List.length_cons, List.range'_succ]
    unfold wpOpsS
    simp only [ho]
    unfold opStepsS at h
    split at h
    · rename_i hrec
      split at h
      · rename_i hw
        rw [wanted_ok hr.row hw]
        simp only [if_true, rec_run hrec]
        split at h
        · rename_i p
          obtain ⟨v, rfl, hv⟩ := hu.pan
          simp only [recoverD]
          exact opStepsS_sound hc rest (k + 1) σ _ w ⟨putD s.r o.dst p, s.m, s.d⟩ (.done p) _ e s' u' hl' hs hg (hr.put (.refl _ w) _ hv _) ⟨_, rfl, tup2_mk hv⟩ h
        · rename_i hnp
          have hnone : recoverD ({ c0 with mode := uF } :: cs) = none := by
            cases u with
            | ret => rw [hu.ret]; rfl
            | pan p => exact (hnp p rfl).elim
            | done p => obtain ⟨v, rfl, _⟩ := hu.done; rfl
          simp only [hnone]
          exact opStepsS_sound hc rest (k + 1) σ _ w ⟨putD s.r o.dst .nili, s.m, s.d⟩ _ _ e s' u' hl' hs hg (hr.put (.refl _ w) _ .nili _) hu h
      · simp at h
    · split at h
      · rename_i s1 h1
        have key := opStep_sound (a := a) (K := fun a' w' => wpOpsS E.P ops (EndsS σ w c0 cs e s' u') (List.range' (k + 1) rest.length) a' ({ c0 with mode := uF } :: cs) w')
          (Q := fun x a' w' => EndsS σ w c0 cs e s' u' x a' ({ c0 with mode := uF } :: cs) w') hc hs hg hr h1
          (fun a' w' ⟨σ', h2, h3, h4, h5, _⟩ => wpOpsS_mono (fun x a cs w q => q.later h2 h3) _ _ _ _ (opStepsS_sound hc rest (k + 1) σ' a' w' s1 u uF e s' u' hl' h4 (hg.mono h2) h5 (hu.mono h2) h))
          (fun ch a' w' ⟨_, _, _, _, _, hf⟩ => hf.elim)
        split
        · rename_i hw
          rw [if_pos hw] at key
          split
          · rename_i w' hr'
            simp only [Oper.wp, hr', Oper.upon] at key
          · exact key
        · rename_i hw; rw [if_neg hw] at key; exact key
      · rename_i e1 s1 hne h1
        simp only [Option.some.injEq, Prod.mk.injEq] at h
        obtain ⟨rfl, rfl, rfl⟩ := h
        have key := opStep_sound (a := a) (K := fun a' w' => wpOpsS E.P ops (EndsS σ w c0 cs e1 s1 u) (List.range' (k + 1) rest.length) a' ({ c0 with mode := uF } :: cs) w')
          (Q := fun x a' w' => EndsS σ w c0 cs e1 s1 u x a' ({ c0 with mode := uF } :: cs) w') hc hs hg hr h1
          (fun a' w' ⟨_, _, _, _, _, hf⟩ => by
            cases e1 with
            | norm => first | exact (hne _ h1).elim | exact (hne rfl).elim | exact (hne h1).elim | exact (hne _ rfl).elim
            | _ => exact hf.elim)
          (fun ch a' w' ⟨σ', h2, h3, h4, h5, h6⟩ => ⟨σ', h2, h3, h4, h5, h6, uF, rfl, hu.mono h2⟩)
        split
        · rename_i hw
          rw [if_pos hw] at key
          split
          · rename_i w' hr'
            simp only [Oper.wp, hr', Oper.upon] at key
          · exact key
        · rename_i hw; rw [if_neg hw] at key; exact key
      · simp at h

def CodeOKS (E : Env) (c : Code) (run : St → RC → Option (Ex × St × RC)) : Prop :=
  ∀ (σ : Sig) (s : St) (u : RC) (uF : FrameMode) (e : Ex) (s' : St) (u' : RC) (a : Act) (w : World) (c0 : Frame) (cs : List Frame), Sim σ s.m w → GOK E σ → Regs σ s a → RCR σ u uF → run s u = some (e, s', u') →
    c.wpS E.P (EndsS σ w c0 cs e s' u') a ({ c0 with mode := uF } :: cs) w
theorem wpS_mono {P : Program} {c : Code} {Q Q' : Exit → Act → List Frame → World → Prop} (hq : ∀ x a cs w, Q x a cs w → Q' x a cs w) {a : Act} {cs : List Frame} {w : World} (h : c.wpS P Q a cs w) : c.wpS P Q' a cs w :=
  fun b k hb hr => let ⟨e, a', cs', w', q, r⟩ := h b k hb hr; ⟨e, a', cs', w', hq _ _ _ _ q, r⟩

theorem plainS {c : Code} {n : Nat} (h : CodeOK E c (exec E call draw n f c)) : CodeOKS E c (fun s u => match exec E call draw n f c s with | some (e, s') => some (e, s', u) | none => none) := by
  intro σ s u uF e s' u' a w c0 cs hs hg hr hu hx
  simp only at hx
  split at hx
  · rename_i e1 s1 h1
    simp only [Option.some.injEq, Prod.mk.injEq] at hx
    obtain ⟨rfl, rfl, rfl⟩ := hx
    exact wpS_of_wp (wp_mono (h σ s _ _ a w hs hg hr h1) (fun x a w' ⟨σ', h2, h3, h4, h5, h6⟩ => ⟨σ', h2, h3, h4, h5, h6, uF, rfl, hu.mono h2⟩))
  · simp at hx

theorem execS_sound (hc : CallOK E call) {p : Nat → Array Oper → Bool} (hd : ∀ id ops, p id ops = true → DrawOK E draw f id ops) (n : Nat) : ∀ c : Code, allDraw p c = true → CodeOKS E c (execS E call draw n f c)
  | .region id ops false, had => by
    intro σ s u uF e s' u' a w c0 cs hs hg hr hu h
    simp only [execS] at h
    refine wpS_region ?_
    have := opStepsS_sound hc ops.toList 0 σ a w s u uF e s' u' (by simp) hs hg hr hu h (c0 := c0) (cs := cs)
    rw [← List.range_eq_range'] at this
    simpa using this
  | .region id ops true, had => by
    intro σ s u uF e s' u' a w c0 cs hs hg hr hu h
    simp only [execS] at h
    exact plainS (exec_sound hc hd n (.region id ops true) had) σ s u uF e s' u' a w c0 cs hs hg hr hu h
  | .seq x y, had => by
    intro σ s u uF e s' u' a w c0 cs hs hg hr hu h
    simp only [allDraw, Bool.and_eq_true] at had
    have ihx := execS_sound hc hd n x had.1
    have ihy := execS_sound hc hd n y had.2
    simp only [execS] at h
    refine wpS_seq ?_
    split at h
    · rename_i s1 u1 h1
      refine wpS_mono (fun z a' cs' w' q => ?_) (ihx σ s u uF _ _ _ a w c0 cs hs hg hr hu h1)
      obtain ⟨σ', h2, h3, h4, h5, h6, uF1, rfl, h7⟩ := q
      cases z <;> simp only [Meets] at h6
      simp only [Exit.thenS]
      exact wpS_mono (fun z a2 cs2 w2 q => q.later h2 h3) (ihy σ' s1 u1 uF1 e s' u' a' w' c0 cs h4 (hg.mono h2) h5 h7 h)
    · rename_i hne
      refine wpS_mono (fun z a' cs' w' q => ?_) (ihx σ s u uF _ _ _ a w c0 cs hs hg hr hu h)
      have q' := q
      obtain ⟨σ', h2, h3, h4, h5, h6, _⟩ := q
      cases z <;> simp only [Exit.thenS] <;> first
        | exact q'
        | (cases e <;> simp only [Meets] at h6
           exact (hne _ _ h).elim)
  | .cond c x y, had => by
    intro σ s u uF e s' u' a w c0 cs hs hg hr hu h
    simp only [allDraw, Bool.and_eq_true] at had
    have ihx := execS_sound hc hd n x had.1
    have ihy := execS_sound hc hd n y had.2
    simp only [execS] at h
    have hv := geval_ok (a := a) hg hr.row c
    split at h
    · rename_i hb
      rw [hb] at hv
      have : a.eval c = .bool true := by generalize a.eval c = u at hv; cases hv; rfl
      exact wpS_cond this (ihx σ s u uF _ _ _ a w c0 cs hs hg hr hu h)
    · rename_i hb
      rw [hb] at hv
      have : a.eval c = .bool false := by generalize a.eval c = u at hv; cases hv; rfl
      exact wpS_cond this (ihy σ s u uF _ _ _ a w c0 cs hs hg hr hu h)
    · simp at h
  | .skip, had => by
    intro σ s u uF e s' u' a w c0 cs hs hg hr hu h
    simp only [execS] at h
    exact plainS (exec_sound hc hd n .skip had) σ s u uF e s' u' a w c0 cs hs hg hr hu h
  | .block id c, had => by
    intro σ s u uF e s' u' a w c0 cs hs hg hr hu h
    simp only [execS] at h
    exact plainS (exec_sound hc hd n (.block id c) had) σ s u uF e s' u' a w c0 cs hs hg hr hu h
  | .loop c, had => by
    intro σ s u uF e s' u' a w c0 cs hs hg hr hu h
    simp only [execS] at h
    exact plainS (exec_sound hc hd n (.loop c) had) σ s u uF e s' u' a w c0 cs hs hg hr hu h
  | .exit id, had => by
    intro σ s u uF e s' u' a w c0 cs hs hg hr hu h
    simp only [execS] at h
    exact plainS (exec_sound hc hd n (.exit id) had) σ s u uF e s' u' a w c0 cs hs hg hr hu h
  | .ret, had => by
    intro σ s u uF e s' u' a w c0 cs hs hg hr hu h
    simp only [execS] at h
    exact plainS (exec_sound hc hd n .ret had) σ s u uF e s' u' a w c0 cs hs hg hr hu h
  | .goto _, _ | .label _, _ | .scope _, _ | .refuse _, _ | .rangeFunc .., _ => by
    intro σ s u uF e s' u' a w c0 cs hs hg hr hu h
    simp [execS, exec] at h
end
end Go.Gm
