/- The ghost machine, part 16: code of one function, with calls and drawn regions as hypotheses. -/
import Derived.Test.YtnfbfcheipjonaaGreatDoorGm15
import Derived.Tactics
set_option linter.unusedSimpArgs false
set_option linter.unusedVariables false
namespace Go.Gm

/-- What is known of the package-level variables. -/
def GOK (E : Env) (σ : Sig) : Prop := ∀ g cs, E.G g = some cs → VR σ (.iptr cs 0) (.pointer (some ⟨g, 0, none⟩))
theorem GOK.mono {E : Env} {σ σ' : Sig} {w : World} (h : GOK E σ) (he : Ext σ w σ') : GOK E σ' := fun g cs e => (h g cs e).mono he

/-- How a piece of code ended, against what was computed. -/
def Meets (σ : Sig) : Ex → Exit → Prop
  | .norm, .normal => True
  | .exit i, .exit j => i = j
  | .ret, .ret => True
  | .panic p, .panic ch => ∃ v, VR σ p v ∧ ch = [{ v, recovered := false }]
  | _, _ => False
/-- What is deferred. -/
def DRel (σ : Sig) (x : FuncId × List PV) (d : Deferred) : Prop := ∃ cap, d.target = .fn (.func x.1) cap ∧ Row σ x.2 (d.args ++ cap)
inductive DefR (σ : Sig) : List (FuncId × List PV) → List Deferred → Prop
  | nil : DefR σ [] []
  | cons {x d l r} : DRel σ x d → DefR σ l r → DefR σ (x :: l) (d :: r)
theorem Row.mono {σ σ' : Sig} {w : World} {r : List PV} {ts : Array Value} (h : Row σ r ts) (he : Ext σ w σ') : Row σ' r ts := ⟨h.1, fun j p v x y => (h.2 j p v x y).mono he⟩
theorem DefR.mono {σ σ' : Sig} {w : World} {l : List (FuncId × List PV)} {r : List Deferred} (h : DefR σ l r) (he : Ext σ w σ') : DefR σ' l r := by
  induction h with
  | nil => exact .nil
  | cons h _ ih =>
    obtain ⟨cap, h1, h2⟩ := h
    exact .cons ⟨cap, h1, h2.mono he⟩ ih
theorem DefR.nil_inv {σ : Sig} {l : List Deferred} (h : DefR σ [] l) : l = [] := by cases h; rfl
/-- A function's own state. -/
structure Regs (σ : Sig) (s : St) (a : Act) : Prop where
  row : Row σ s.r a.tmps
  def_ : DefR σ s.d a.defers
theorem Regs.mono {σ σ' : Sig} {w : World} {s : St} {a : Act} (h : Regs σ s a) (he : Ext σ w σ') : Regs σ' s a := ⟨h.row.mono he, h.def_.mono he⟩
def Ends (σ : Sig) (w : World) (e : Ex) (s : St) (x : Exit) (a : Act) (w' : World) : Prop :=
  ∃ σ', Ext σ w σ' ∧ Frm σ w w' ∧ Sim σ' s.m w' ∧ Regs σ' s a ∧ Meets σ' e x
theorem Ends.later {σ σ1 : Sig} {w w1 : World} {e : Ex} {s : St} {x : Exit} {a : Act} {w' : World} (he : Ext σ w σ1) (hf : Frm σ w w1) (h : Ends σ1 w1 e s x a w') : Ends σ w e s x a w' := by
  obtain ⟨σ', h2, h3, h4⟩ := h
  exact ⟨σ', he.trans hf h2, hf.trans he h3, h4⟩

/-- What a call does. -/
def Answers (σ : Sig) (w : World) (r : CRes) (m : Mem) (e : Ending) (w' : World) : Prop :=
  ∃ σ', Ext σ w σ' ∧ Frm σ w w' ∧ Sim σ' m w' ∧ match e, r with
    | .returned v, .ret p => VR σ' p v
    | .panicked ch, .panic p => ∃ v, VR σ' p v ∧ ch = [{ v, recovered := false }]
    | _, _ => False
def CallOK (E : Env) (call : FuncId → List PV → Mem → Option (CRes × Mem)) : Prop :=
  ∀ (σ : Sig) (m : Mem) (w : World) (g : FuncId) (as : List PV) (vs : Array Value) (r : CRes) (m' : Mem), Sim σ m w → GOK E σ → Row σ as vs → call g as m = some (r, m') →
    (callFunc g vs).run E.P w = .ok (.enter g vs) w ∧ Calls E.P g vs w (Answers σ w r m')
def DrawOK (E : Env) (draw : FuncId → Nat → Array Oper → St → Option (Ex × St)) (f : FuncId) (id : Nat) (ops : Array Oper) : Prop :=
  ∀ (σ : Sig) (s : St) (e : Ex) (s' : St) (a : Act) (w : World), Sim σ s.m w → GOK E σ → Regs σ s a → draw f id ops s = some (e, s') →
    (Code.region id ops true).wp E.P (Ends σ w e s') a w

section
variable {E : Env} {call : FuncId → List PV → Mem → Option (CRes × Mem)} {draw : FuncId → Nat → Array Oper → St → Option (Ex × St)} {σ : Sig} {a : Act} {w : World} {f : FuncId}

theorem Row.got {r : List PV} {ts : Array Value} (h : Row σ r ts) (t : Nat) : VR σ (Gm.get r t) (ts.getD t undef) := by
  have : ∀ (r : List PV) (t : Nat), Gm.get r t = r.getD t .dead := by
    intro r
    induction r with
    | nil => intro t; simp [Gm.get]
    | cons x r ih => intro t; cases t <;> simp [Gm.get, ih]
  rw [this]
  rcases Nat.lt_or_ge t r.length with hl | hl
  · have hl' : t < ts.size := by rw [← h.1]; exact hl
    have e1 : r.getD t .dead = r[t] := by simp [hl]
    have e2 : ts.getD t undef = ts[t] := by simp [hl']
    rw [e1, e2]
    exact h.2 t _ _ (List.getElem?_eq_getElem hl) (Array.getElem?_eq_getElem hl')
  · have : r.getD t .dead = .dead := by simp [hl]
    rw [this]; exact .dead
theorem Row.put {r : List PV} {ts : Array Value} (h : Row σ r ts) (t : Nat) {p : PV} {v : Value} (hv : VR σ p v) : Row σ (put r t p) (ts.setIfInBounds t v) := by
  have : ∀ (r : List PV) (t : Nat), Gm.put r t p = r.set t p := by
    intro r
    induction r with
    | nil => intro t; simp [Gm.put]
    | cons x r ih => intro t; cases t <;> simp [Gm.put, ih]
  rw [this]
  refine ⟨by simp [h.1], fun j q u a b => ?_⟩
  rcases set_get a with ⟨rfl, rfl⟩ | ⟨hne, ha⟩
  · have hl : t < ts.size := by have := (List.getElem?_eq_some_iff.1 a).1; simp at this; rw [← h.1]; exact this
    rw [Array.getElem?_setIfInBounds] at b
    simp [hl] at b
    subst b
    exact hv
  · rw [Array.getElem?_setIfInBounds_ne hne] at b
    exact h.2 j q u ha b
theorem Row.putD {r : List PV} (h : Row σ r a.tmps) (dst : Option Nat) {p : PV} {v : Value} (hv : VR σ p v) : Row σ (putD r dst p) (a.put dst v).tmps := by
  cases dst with
  | none => exact h
  | some d => exact h.put d hv
theorem put_defers (a : Act) (dst : Option Tmp) (v : Value) : (a.put dst v).defers = a.defers := by cases dst <;> rfl

theorem geval_ok (hg : GOK E σ) {r : List PV} (hr : Row σ r a.tmps) (x : Operand) : VR σ (geval E.G r x) (a.eval x) := by
  cases x with
  | tmp t => exact hr.got t
  | const v => exact VR.ofV v
  | func g => exact .fn rfl rfl (fun j p v a _ => by simp at a) (fun j p v a _ => by simp at a)
  | global g =>
    simp only [geval]
    split
    · exact hg g _ ‹_›
    · exact .dead

theorem VR.undef : VR σ (.tup []) undef := .tup rfl (fun j p v a => by simp at a)
theorem wanted_ok {ops : Array Oper} {o : Oper} {r : List PV} (hr : Row σ r a.tmps) {b : Bool} (h : wantedP ops r o = some b) : Region.wanted o (yielded ops a.tmps) = b := by
  unfold wantedP at h
  unfold Region.wanted
  split at h
  · rename_i hg; simp only [hg]; simpa using h
  · rename_i j want hg
    simp only [hg]
    split at h
    · rename_i d hd
      have hv := hr.got d
      split at h
      · rename_i y hy
        rw [hy] at hv
        have : a.tmps.getD d undef = .bool y := by generalize a.tmps.getD d undef = u at hv; cases hv; rfl
        have ht : a.tmps[d]? = some (.bool y) := by
          rw [Array.getD_eq_getD_getElem?] at this
          cases hx : a.tmps[d]? with
          | none => simp [hx, undef] at this
          | some z => simpa [hx] using this
        simp only [Option.some.injEq] at h
        subst h
        simp only [yielded, hd, Option.bind_some, ht]
        cases y <;> cases want <;> rfl
      · rename_i hy
        rw [hy] at hv
        have hu : a.tmps.getD d undef = .tuple #[] := by
          generalize a.tmps.getD d undef = u at hv
          cases hv with
          | @tup _ vs h1 _ =>
            have h2 : vs.size = 0 := h1.symm
            rw [Array.eq_empty_of_size_eq_zero h2]
        have hb : ∀ b, a.tmps[d]? ≠ some (.bool b) := by
          intro b hx
          rw [Array.getD_eq_getD_getElem?, hx] at hu
          simp at hu
        simp only [Option.some.injEq] at h
        subst h
        simp only [yielded, hd, Option.bind_some]
        first
          | rfl
          | (split
             · rename_i b hx; exact absurd hx (hb b)
             · rfl)
      · simp at h
    · simp at h

/-- The state, one operation later. -/
theorem Regs.put {s : St} {σ' : Sig} (h : Regs σ s a) (he : Ext σ w σ') (dst : Option Nat) {p : PV} {v : Value} (hv : VR σ' p v) (m : Mem) : Regs σ' ⟨putD s.r dst p, m, s.d⟩ (a.put dst v) :=
  ⟨(h.row.mono he).putD dst hv, by rw [put_defers]; exact h.def_.mono he⟩

theorem defer_ok {ρ : Operand → PV} {ν : Operand → Value} (hρ : ∀ x, VR σ (ρ x) (ν x)) {o : Oper} {x : FuncId × List PV} {P : Program} (h : deferP ρ o = some (some x)) : ∃ d, (execOp ν o).run P w = .ok (.defer d) w ∧ DRel σ x d := by
  unfold deferP at h
  cases ho : o.op with
  | defer c =>
    simp only [ho] at h
    cases hc : c.callee with
    | value g =>
      simp only [hc] at h
      split at h
      · rename_i hh first cap hq
        simp only [Option.some.injEq] at h
        subst h
        have hv := hρ g
        rw [hq] at hv
        generalize hvq : ν g = vq at hv
        cases hv with
        | fn h1 h2 h3 h4 =>
          rename_i x y
          refine ⟨{ target := .fn (.func hh) y, args := x ++ c.args.map ν }, ?_, y, rfl, Row.append (Row.append ⟨h1, h3⟩ (row_map hρ c.args)) ⟨h2, h4⟩⟩
          simp only [execOp, ho, resolve, hc, hvq, Deferred.ofValue, Sem.run_bind, run_pure', Result.andThen_ok]
      · simp at h
    | invoke r n => simp [hc] at h
    | builtin b => simp [hc] at h
  | _ => simp [ho] at h

theorem opStep_sound (hc : CallOK E call) {ops : Array Oper} {o : Oper} {s s' : St} {e : Ex} (hs : Sim σ s.m w) (hg : GOK E σ) (hr : Regs σ s a) (h : opStep E call f ops o s = some (e, s')) {K : Act → World → Prop} {Q : Exit → Act → World → Prop}
    (hK : ∀ a' w', Ends σ w e s' .normal a' w' → K a' w') (hQ : ∀ ch a' w', Ends σ w e s' (.panic ch) a' w' → Q (.panic ch) a' w') :
    if Region.wanted o (yielded ops a.tmps) then o.wp E.P a w K Q else K (a.put o.dst undef) w := by
  unfold opStep at h
  split at h
  · simp at h
  · rename_i hw
    rw [wanted_ok hr.row hw]
    simp only [Option.some.injEq, Prod.mk.injEq] at h
    obtain ⟨rfl, rfl⟩ := h
    simp only [Bool.false_eq_true, if_false]
    exact hK _ _ ⟨σ, .refl _ _, .refl _ _, hs, hr.put (.refl _ w) _ VR.undef _, trivial⟩
  · rename_i hw
    rw [wanted_ok hr.row hw]
    simp only [if_true]
    have hρ := geval_ok (a := a) hg hr.row
    unfold Oper.wp
    split at h
    · split at h
      · rename_i x hx
        simp only [Option.some.injEq, Prod.mk.injEq] at h
        obtain ⟨rfl, rfl⟩ := h
        obtain ⟨d, hrun, hd⟩ := defer_ok (w := w) (P := E.P) hρ hx
        rw [hrun]
        refine hK _ _ ⟨σ, .refl _ _, .refl _ _, hs, ⟨?_, ?_⟩, trivial⟩
        · have := hr.row.putD (a := a) o.dst (p := .dead) (v := undef) .dead
          cases hdst : o.dst <;> rw [hdst] at this <;> exact this
        · have : (({ a with defers := d :: a.defers } : Act).put o.dst undef).defers = d :: a.defers := put_defers _ _ _
          rw [this]; exact .cons hd hr.def_
      · simp at h
    · rename_i v m hgo
      simp only [Option.some.injEq, Prod.mk.injEq] at h
      obtain ⟨rfl, rfl⟩ := h
      obtain ⟨σ', w', u, hrun, st⟩ := gop_val hs hρ hgo
      have hend : Ends σ w .norm ⟨putD s.r o.dst v, m, s.d⟩ .normal (a.put o.dst u) w' := ⟨σ', st.ext, st.frm, st.sim, hr.put st.ext _ st.val _, trivial⟩
      rcases hrun with hrun | ⟨hrun, rfl⟩
      · rw [hrun]; exact hK _ _ hend
      · rw [hrun]; exact hK _ _ hend
    · rename_i v hgo
      simp only [Option.some.injEq, Prod.mk.injEq] at h
      obtain ⟨rfl, rfl⟩ := h
      obtain ⟨u, hrun, hv⟩ := gop_panic (w := w) hρ hgo
      rw [hrun]
      exact hQ _ _ _ ⟨σ, .refl _ _, .refl _ _, hs, hr, u, hv, rfl⟩
    · rename_i g as hgo
      obtain ⟨vs, hrun, hrow⟩ := gop_enter (w := w) hρ hgo
      split at h
      · simp at h
      · rename_i v m hcall
        simp only [Option.some.injEq, Prod.mk.injEq] at h
        obtain ⟨rfl, rfl⟩ := h
        obtain ⟨hen, hcs⟩ := hc σ s.m w g as vs _ _ hs hg hrow hcall
        rw [hrun, hen]
        refine Calls.mono hcs (fun e w' ha => ?_)
        obtain ⟨σ', h1, h2, h3, h4⟩ := ha
        cases e with
        | returned u => exact hK _ _ ⟨σ', h1, h2, h3, hr.put h1 _ h4 _, trivial⟩
        | panicked ch => exact h4.elim
        | outgrown => exact h4.elim
      · rename_i v m hcall
        simp only [Option.some.injEq, Prod.mk.injEq] at h
        obtain ⟨rfl, rfl⟩ := h
        obtain ⟨hen, hcs⟩ := hc σ s.m w g as vs _ _ hs hg hrow hcall
        rw [hrun, hen]
        refine Calls.mono hcs (fun e w' ha => ?_)
        obtain ⟨σ', h1, h2, h3, h4⟩ := ha
        cases e with
        | returned u => exact h4.elim
        | panicked ch => exact hQ _ _ _ ⟨σ', h1, h2, h3, ⟨hr.row.mono h1, hr.def_.mono h1⟩, h4⟩
        | outgrown => exact h4.elim

theorem letsOut_mono {Q Q' : Exit → Act → World → Prop} (hq : ∀ x a w, Q x a w → Q' x a w) (h : LetsOut Q) : LetsOut Q' := by
  obtain ⟨a, w, h⟩ := h; exact ⟨a, w, hq _ _ _ h⟩
theorem oper_wp_mono {P : Program} {o : Oper} {a : Act} {w : World} {K K' : Act → World → Prop} {Q Q' : Exit → Act → World → Prop} (hk : ∀ a w, K a w → K' a w) (hq : ∀ x a w, Q x a w → Q' x a w)
    (hh : o.wp P a w K Q) : o.wp P a w K' Q' := by
  unfold Oper.wp at *
  generalize (execOp a.eval o).run P w = r at *
  cases r with
  | ok n w' =>
    cases n <;> simp only [Oper.upon] at hh ⊢ <;>
      first
        | exact hk _ _ hh
        | exact Calls.mono hh (fun e w'' he => by cases e <;> first | exact hk _ _ he | exact hq _ _ _ he | exact letsOut_mono hq he)
        | exact Rows.mono hh (fun _ _ he => hk _ _ he)
  | halt x w' => cases x <;> simp only [Oper.upon] at hh ⊢ <;> first | exact hq _ _ _ hh | exact hh
theorem wpList_mono {P : Program} {ops : Array Oper} {Q Q' : Exit → Act → World → Prop} (hq : ∀ x a w, Q x a w → Q' x a w) : ∀ (l : List Oper) (a : Act) (w : World), wpList P ops Q l a w → wpList P ops Q' l a w
  | [], a, w, h => hq _ _ _ h
  | o :: rest, a, w, h => by
    unfold wpList at h ⊢
    split at h
    · rename_i hw; rw [if_pos hw]
      exact h.imp (oper_wp_mono (wpList_mono hq rest) hq) (fun x => ⟨x.1, letsOut_mono hq x.2⟩)
    · rename_i hw; rw [if_neg hw]
      exact wpList_mono hq rest _ _ h

theorem opSteps_sound (hc : CallOK E call) {ops : Array Oper} : ∀ (l : List Oper) (σ : Sig) (a : Act) (w : World) (s : St) (e : Ex) (s' : St), Sim σ s.m w → GOK E σ → Regs σ s a → opSteps E call f ops l s = some (e, s') →
    wpList E.P ops (Ends σ w e s') l a w
  | [], σ, a, w, s, e, s', hs, hg, hr, h => by
    simp only [opSteps, Option.some.injEq, Prod.mk.injEq] at h
    obtain ⟨rfl, rfl⟩ := h
    exact ⟨σ, .refl _ _, .refl _ _, hs, hr, trivial⟩
  | o :: rest, σ, a, w, s, e, s', hs, hg, hr, h => by
    refine wpList_step fun K hK => ?_
    unfold opSteps at h
    split at h
    · rename_i s1 h1
      refine opStep_sound hc hs hg hr h1 (fun a' w' he => ?_) (fun ch a' w' he => ?_)
      · obtain ⟨σ', h2, h3, h4, h5, _⟩ := he
        refine hK _ _ ?_
        have := opSteps_sound hc rest σ' a' w' s1 e s' h4 (hg.mono h2) h5 h
        exact wpList_mono (fun x a w q => q.later h2 h3) _ _ _ this
      · obtain ⟨_, _, _, _, _, hf⟩ := he; exact hf.elim
    · rename_i hne
      refine opStep_sound hc hs hg hr h (fun a' w' he => ?_) (fun ch a' w' he => he)
      obtain ⟨_, _, _, _, _, hf⟩ := he
      cases e with
      | norm => exact (hne _ h).elim
      | _ => exact hf.elim
end
end Go.Gm
