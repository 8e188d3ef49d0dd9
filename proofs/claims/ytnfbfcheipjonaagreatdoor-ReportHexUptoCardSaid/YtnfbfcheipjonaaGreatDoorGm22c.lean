/- The ghost machine, part 22c: every function. -/
import Derived.Test.YtnfbfcheipjonaaGreatDoorGm22b
set_option linter.unusedSimpArgs false
set_option linter.unusedVariables false
namespace Go.Gm

theorem ev_ok {E : Env} (hP : NumOK E.P) (hprim : ∀ g p, E.prim g = some p → FunOK E g p) {draw : (FuncId → List PV → Mem → Option (CRes × Mem)) → FuncId → Nat → Array Oper → St → Option (Ex × St)}
    {p : FuncId → Nat → Array Oper → Bool} (hd : ∀ call, CallOK E call → ∀ f id ops, p f id ops = true → DrawOK E (draw call) f id ops) (hp : ∀ (f : FuncId) (fn : Func) (c : Code), E.P.funcs[f]? = some fn → fn.body = some c → allDraw (p f) c = true) :
    ∀ (n : Nat) (g : FuncId), FunOK E g (ev E draw n g)
  | 0, g => by intro σ m w as vs r m' hs hg hr h; simp [ev] at h
  | n + 1, g => by
    intro σ m w as vs r m' hs hg hr h
    have hcall : CallOK E (fun g as m => iso (ev E draw n g) as m) := fun σ m w g as vs r m' hs hg hr h => iso_ok (ev_ok hP hprim hd hp n g) σ m w as vs r m' hs hg hr h
    unfold ev at h
    split at h
    · rename_i pr hpr
      exact hprim g pr hpr σ m w as vs r m' hs hg hr h
    split at h
    · simp at h
    · rename_i fn hf
      split at h
      · simp at h
      · rename_i c hb
        refine ⟨callFunc_enter hP hf hb vs w, calls_of_wp_defers hf hb ?_⟩
        have hrow := row_enter hr fn.ntmps
        simp only at h
        generalize hcD : (fun (h : FuncId) (u : RC) (as : List PV) (m : Mem) => if refs (rcP u) = [] then iso (evD E (draw fun g as m => iso (ev E draw n g) as m) (fun g as m => iso (ev E draw n g) as m) n h u) as m else none) = callD at h
        have hD : ∀ (h : FuncId) (u : RC) (as : List PV) (m : Mem) (r : CRes) (m' : Mem) (σ : Sig) (w : World) (vs : Array Value) (uF : FrameMode), Sim σ m w → GOK E σ → Row σ as vs → RCR σ u uF → callD h u as m = some (r, m') →
            (callFunc h vs).run E.P w = .ok (.enter h vs) w ∧ ∃ q, r = .ret q ∧ CallsD E.P h vs uF w (AnswersD σ w q m') := by
          intro h u as m r m' σ w vs uF hs hg hr hu hx
          rw [← hcD] at hx
          simp only at hx
          split at hx
          · rename_i hu0
            exact isoD_ok (fun σ m w as vs r m' uF hs hg hr hu hx => evD_ok hP hcall (hd _ hcall h) (fun fn c hf hb => hp h fn c hf hb) hs hg hr hu hx) hu0 hs hg hr hu hx
          · simp at hx
        -- what follows the code
        have hout : ∀ (u : RC) (uF : FrameMode) (s1 : St) (a : Act) (σ1 : Sig) (w1 : World), Ext σ w σ1 → Frm σ w w1 → Sim σ1 s1.m w1 → Regs σ1 s1 a → RCR σ1 u uF →
            (match leaveP callD s1.d u s1.m with
              | some (.ret, m1) => match resP E.P ⟨s1.r, m1, []⟩ fn.results.toList with
                | none => none
                | some l =>
                  if E.A.keep g then some (.ret (packP l), m1)
                  else match Gm.frz m1 m.length (packP l) with
                    | some v => some (.ret v, killed m.length m1 (packP l))
                    | none => none
              | some (.pan v, m1) => some (.panic v, m1)
              | _ => none) = some (r, m') → Leaves E.P fn a.tmps (Answers σ w r m') a.defers uF w1 := by
          intro u uF s1 a σ1 w1 h1 h2 h3 h4 h5 hx
          split at hx
          · rename_i m1 hlv
            refine leaveP_ok hD s1.d a.defers u uF σ1 s1.m w1 .ret m1 h4.def_ h3 (hg.mono h1) h5 hlv (fun σ2 w2 uF2 g1 g2 g3 g4 => ?_)
            rw [g4.ret]
            split at hx
            · simp at hx
            · rename_i l hl
              obtain ⟨v, hv, hvr⟩ := results_ok (P := E.P) (s := ⟨s1.r, m1, []⟩) (a := a) g3 (h4.row.mono g1) hl
              refine ⟨v, hv, ?_⟩
              have e1 := h1.trans h2 g1
              have e2 := h2.trans h1 g2
              split at hx
              · simp only [Option.some.injEq, Prod.mk.injEq] at hx
                obtain ⟨rfl, rfl⟩ := hx
                exact ⟨σ2, e1, e2, g3, hvr⟩
              · split at hx
                · rename_i q hq
                  simp only [Option.some.injEq, Prod.mk.injEq] at hx
                  obtain ⟨rfl, rfl⟩ := hx
                  rw [killed_eq]
                  exact ⟨_, e1.trans e2 (Ext.frz g3 _ _), e2.trans e1 (Frm.refl _ _), g3.frz _ _, frz_ok g3 hvr hq⟩
                · simp at hx
          · rename_i q m1 hlv
            refine leaveP_ok hD s1.d a.defers u uF σ1 s1.m w1 (.pan q) m1 h4.def_ h3 (hg.mono h1) h5 hlv (fun σ2 w2 uF2 g1 g2 g3 g4 => ?_)
            obtain ⟨v, rfl, hv⟩ := g4.pan
            simp only [Option.some.injEq, Prod.mk.injEq] at hx
            obtain ⟨rfl, rfl⟩ := hx
            exact ⟨σ2, h1.trans h2 g1, h2.trans h1 g2, g3, v, hv, rfl⟩
          · simp at hx
        split at h
        · rename_i s1 hex
          refine wp_mono (exec_sound hcall (hd _ hcall g) n c (hp g fn c hf hb) σ ⟨_, m, []⟩ _ _ ⟨_, []⟩ w hs hg ⟨hrow, .nil⟩ hex) (fun x a w' q => ?_)
          obtain ⟨σ', h1, h2, h3, h4, h5⟩ := q
          cases x <;> simp only [Meets] at h5
          exact hout .ret .returning s1 a σ' w' h1 h2 h3 h4 ⟨_, rfl, .nili⟩ h
        · rename_i s1 hex
          refine wp_mono (exec_sound hcall (hd _ hcall g) n c (hp g fn c hf hb) σ ⟨_, m, []⟩ _ _ ⟨_, []⟩ w hs hg ⟨hrow, .nil⟩ hex) (fun x a w' q => ?_)
          obtain ⟨σ', h1, h2, h3, h4, h5⟩ := q
          cases x <;> simp only [Meets] at h5
          exact hout .ret .returning s1 a σ' w' h1 h2 h3 h4 ⟨_, rfl, .nili⟩ h
        · rename_i q1 s1 hex
          refine wp_mono (exec_sound hcall (hd _ hcall g) n c (hp g fn c hf hb) σ ⟨_, m, []⟩ _ _ ⟨_, []⟩ w hs hg ⟨hrow, .nil⟩ hex) (fun x a w' q => ?_)
          obtain ⟨σ', h1, h2, h3, h4, h5⟩ := q
          cases x <;> simp only [Meets] at h5
          obtain ⟨v, hv, rfl⟩ := h5
          exact hout (.pan q1) (.panicking [{ v, recovered := false }]) s1 a σ' w' h1 h2 h3 h4 ⟨_, rfl, tup2_mk hv⟩ h
        · simp at h
end Go.Gm
