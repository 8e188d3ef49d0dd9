/- The ghost machine, part 22b: a function with what it deferred. -/
import Derived.Test.YtnfbfcheipjonaaGreatDoorGm22
set_option linter.unusedSimpArgs false
set_option linter.unusedVariables false
namespace Go.Gm

def AnswersD (σ : Sig) (w : World) (p : PV) (m : Mem) (e : Ending) (uF : FrameMode) (w' : World) : Prop :=
  ∃ σ', Ext σ w σ' ∧ Frm σ w w' ∧ Sim σ' m w' ∧ ∃ v x, e = .returned v ∧ modeV uF = some x ∧ VR σ' p x
theorem row_enter {σ : Sig} {as : List PV} {vs : Array Value} (hr : Row σ as vs) (n : Nat) : Row σ (as ++ List.replicate (n - as.length) .dead) (vs ++ Array.replicate (n - vs.size) undef) := by
  refine Row.append hr ⟨by simp [hr.1], fun j p v a b => ?_⟩
  rw [List.getElem?_replicate] at a
  split at a
  · obtain rfl := Option.some.inj a; exact .dead
  · simp at a

section
variable {E : Env} {call : FuncId → List PV → Mem → Option (CRes × Mem)} {draw : FuncId → Nat → Array Oper → St → Option (Ex × St)}

theorem evD_ok (hP : NumOK E.P) (hc : CallOK E call) {f : FuncId} {p : Nat → Array Oper → Bool} (hd : ∀ id ops, p id ops = true → DrawOK E draw f id ops) (hp : ∀ (fn : Func) (c : Code), E.P.funcs[f]? = some fn → fn.body = some c → allDraw p c = true) {n : Nat}
    {σ : Sig} {m : Mem} {w : World} {u : RC} {uF : FrameMode} {as : List PV} {vs : Array Value} {r : CRes} {m' : Mem} (hs : Sim σ m w) (hg : GOK E σ) (hr : Row σ as vs) (hu : RCR σ u uF) (h : evD E draw call n f u as m = some (r, m')) :
    (callFunc f vs).run E.P w = .ok (.enter f vs) w ∧ ∃ q, r = .ret q ∧ CallsD E.P f vs uF w (AnswersD σ w q m') := by
  unfold evD at h
  split at h
  · simp at h
  · rename_i fn hf
    split at h
    · simp at h
    · rename_i c hb
      refine ⟨callFunc_enter hP hf hb vs w, ?_⟩
      have hmain : ∀ (e : Ex) (s1 : St) (u1 : RC), (e = .norm ∨ e = .ret) → execS E call draw n f c ⟨as ++ List.replicate (fn.ntmps - as.length) .dead, m, []⟩ u = some (e, s1, u1) →
          (if s1.d.isEmpty then (resP E.P s1 fn.results.toList).map (fun _ => ((.ret (rcP u1) : CRes), s1.m)) else none) = some (r, m') → ∃ q, r = .ret q ∧ CallsD E.P f vs uF w (AnswersD σ w q m') := by
        intro e s1 u1 he hex h
        split at h
        · rename_i hde
          obtain ⟨ps, hps, hx⟩ := Option.map_eq_some_iff.1 h
          simp only [Prod.mk.injEq] at hx
          obtain ⟨rfl, rfl⟩ := hx
          refine ⟨_, rfl, callsD_of_wpS hf hb (fun c0 cs hm => ?_)⟩
          have hc0 : c0 = { c0 with mode := uF } := by rw [← hm]
          have := execS_sound hc hd n c (hp fn c hf hb) σ ⟨_, m, []⟩ u uF e s1 u1 ⟨_, []⟩ w c0 cs hs hg ⟨row_enter hr fn.ntmps, .nil⟩ hu hex
          rw [← hc0] at this
          refine wpS_mono (fun x a cs' w' ⟨σ', h1, h2, h3, h4, h5, uF', h6, x0, h7, h8⟩ => ?_) this
          have hdf : a.defers = [] := by
            have hnil : s1.d = [] := by simpa using hde
            have := h4.def_
            rw [hnil] at this
            exact this.nil_inv
          obtain ⟨v, hv, hvr⟩ := results_ok (P := E.P) h3 h4.row hps
          rcases he with rfl | rfl <;> cases x <;> simp only [Meets] at h5
          · exact ⟨hdf, uF', h6, v, hv, σ', h1, h2, h3, v, x0, rfl, h7, h8⟩
          · exact ⟨hdf, uF', h6, v, hv, σ', h1, h2, h3, v, x0, rfl, h7, h8⟩
        · simp at h
      split at h
      · rename_i s1 u1 hex; exact hmain _ s1 u1 (.inl rfl) hex h
      · rename_i s1 u1 hex; exact hmain _ s1 u1 (.inr rfl) hex h
      · simp at h

theorem leaveP_ok {fn : Func} {tmps : Array Value} {R : Ending → World → Prop} {callD : FuncId → RC → List PV → Mem → Option (CRes × Mem)}
    (hD : ∀ (h : FuncId) (u : RC) (as : List PV) (m : Mem) (r : CRes) (m' : Mem) (σ : Sig) (w : World) (vs : Array Value) (uF : FrameMode), Sim σ m w → GOK E σ → Row σ as vs → RCR σ u uF → callD h u as m = some (r, m') →
      (callFunc h vs).run E.P w = .ok (.enter h vs) w ∧ ∃ q, r = .ret q ∧ CallsD E.P h vs uF w (AnswersD σ w q m')) :
    ∀ (ds : List (FuncId × List PV)) (dsF : List Deferred) (u : RC) (uF : FrameMode) (σ : Sig) (m : Mem) (w : World) (u' : RC) (m' : Mem), DefR σ ds dsF → Sim σ m w → GOK E σ → RCR σ u uF → leaveP callD ds u m = some (u', m') →
      (∀ σ' w' uF', Ext σ w σ' → Frm σ w w' → Sim σ' m' w' → RCR σ' u' uF' → Leaves E.P fn tmps R [] uF' w') → Leaves E.P fn tmps R dsF uF w
  | [], dsF, u, uF, σ, m, w, u', m', hds, hs, hg, hu, h, hfin => by
    rw [hds.nil_inv]
    simp only [leaveP, Option.some.injEq, Prod.mk.injEq] at h
    obtain ⟨rfl, rfl⟩ := h
    exact hfin σ w uF (.refl _ _) (.refl _ _) hs hu
  | x :: ds, dsF, u, uF, σ, m, w, u', m', hds, hs, hg, hu, h, hfin => by
    cases hds with
    | cons hx hrest =>
      rename_i d r
      obtain ⟨cap, ht, hrow⟩ := hx
      unfold leaveP at h
      split at h
      · rename_i q m1 hcd
        split at h
        · rename_i u1 hu1
          obtain ⟨hen, q', hq, hcall⟩ := hD _ _ _ _ _ _ σ w _ uF hs hg hrow hu hcd
          simp only [CRes.ret.injEq] at hq
          subst hq
          refine ⟨?_, .func x.1, cap, x.1, d.args ++ cap, ht, by rw [ht]; exact hen, hcall.mono (fun e uF1 w1 ha => ?_)⟩
          · cases u with
            | ret => rw [hu.ret]; simp
            | pan p => obtain ⟨v, rfl, _⟩ := hu.pan; simp
            | done p => obtain ⟨v, rfl, _⟩ := hu.done; simp
          · obtain ⟨σ1, h1, h2, h3, v, x0, rfl, h4, h5⟩ := ha
            have hu1' : RCR σ1 u1 uF1 := ⟨x0, h4, by rw [rcU_rcP hu1]; exact h5⟩
            exact leaveP_ok hD ds r u1.settle (settle uF1) σ1 m1 w1 u' m' (hrest.mono h1) h3 (hg.mono h1) hu1'.settle h
              (fun σ2 w2 uF2 g1 g2 g3 g4 => hfin σ2 w2 uF2 (h1.trans h2 g1) (h2.trans h1 g2) g3 g4)
        · simp at h
      · simp at h
end

theorem isoD_ok {E : Env} {h : FuncId} {u : RC} {callee : List PV → Mem → Option (CRes × Mem)}
    (hcal : ∀ (σ : Sig) (m : Mem) (w : World) (as : List PV) (vs : Array Value) (r : CRes) (m' : Mem) (uF : FrameMode), Sim σ m w → GOK E σ → Row σ as vs → RCR σ u uF → callee as m = some (r, m') →
      (callFunc h vs).run E.P w = .ok (.enter h vs) w ∧ ∃ q, r = .ret q ∧ CallsD E.P h vs uF w (AnswersD σ w q m')) (hu0 : refs (rcP u) = [])
    {σ : Sig} {m : Mem} {w : World} {as : List PV} {vs : Array Value} {r : CRes} {m' : Mem} {uF : FrameMode} (hs : Sim σ m w) (hg : GOK E σ) (hr : Row σ as vs) (hu : RCR σ u uF) (hx : iso callee as m = some (r, m')) :
    (callFunc h vs).run E.P w = .ok (.enter h vs) w ∧ ∃ q, r = .ret q ∧ CallsD E.P h vs uF w (AnswersD σ w q m') := by
  obtain ⟨σp, mp, asp, r0, m0, ρ, h1, h2, h3, h4, h5, rfl, h6⟩ := iso_core hs hg hr hx
  obtain ⟨x, hx1, hx2⟩ := hu
  obtain ⟨hen, q, rfl, hc⟩ := hcal σp mp w asp vs r0 m0 uF h1 h2 h3 ⟨x, hx1, h5 _ _ hu0 hx2⟩ h4
  refine ⟨hen, ren ρ q, rfl, hc.mono (fun e uF' w' ha => ?_)⟩
  obtain ⟨σ1, g1, g2, g3, v, x0, rfl, g4, g5⟩ := ha
  obtain ⟨σ', j1, j2, j3, j4⟩ := h6 σ1 w' g1 g2 g3
  exact ⟨σ', j1, j2, j3, v, x0, rfl, g4, j4 _ _ rfl g5⟩
end Go.Gm
