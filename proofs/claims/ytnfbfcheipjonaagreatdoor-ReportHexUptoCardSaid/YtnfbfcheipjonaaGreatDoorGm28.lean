/- The ghost machine, part 28: drawn regions against the model; the whole machine is sound. -/
import Derived.Test.YtnfbfcheipjonaaGreatDoorGm27
set_option linter.unusedSimpArgs false
set_option linter.unusedVariables false
namespace Go.Gm

theorem wpOp_mono2 {P : Program} {ops : Array Oper} {Q Q' : Exit → Act → World → Prop} {i : Nat} {a : Act} {w : World} {K K' : Act → World → Prop} (hk : ∀ a w, K a w → K' a w) (hq : ∀ x a w, Q x a w → Q' x a w) (hh : wpOp P ops Q i K a w) : wpOp P ops Q' i K' a w := by
  unfold wpOp at *
  split
  · exact hk _ _ (by simpa [*] using hh)
  · rename_i o ho
    simp only [ho] at hh
    split
    · rename_i hw; simp only [hw, if_true] at hh; exact hh.imp (oper_wp_mono hk hq) (fun x => ⟨x.1, letsOut_mono hq x.2⟩)
    · rename_i hw; simp only [hw] at hh; exact hk _ _ hh
theorem wpAny_mono {P : Program} {md : Region.Mode} {ops : Array Oper} {Q Q' : Exit → Act → World → Prop} (hq : ∀ x a w, Q x a w → Q' x a w) : ∀ (n : Nat) (l : Array Bool) (a : Act) (w : World), wpAny P md ops Q n l a w → wpAny P md ops Q' n l a w
  | 0, l, a, w, h => ⟨h.1, hq _ _ _ h.2⟩
  | n + 1, l, a, w, h => ⟨fun e => hq _ _ _ (h.1 e), fun i hi => wpOp_mono2 (fun a w => wpAny_mono hq n _ a w) hq (h.2 i hi)⟩

theorem countP_less {p q : Nat → Bool} {i : Nat} (hp : p i = true) (hq : q i = false) (h : ∀ j, q j = true → p j = true) : ∀ (l : List Nat), i ∈ l → l.countP q < l.countP p
  | [], hi => by simp at hi
  | x :: l, hi => by
    have hle : l.countP q ≤ l.countP p := List.countP_mono_left (fun j _ => h j)
    by_cases e : i = x
    · subst e
      simp only [List.countP_cons, hp, hq]
      simp
      omega
    · have hl : i ∈ l := by simpa [e] using hi
      have := countP_less hp hq h l hl
      have hle1 : (if q x = true then 1 else 0) ≤ (if p x = true then 1 else 0) := by
        by_cases hqx : q x = true
        · rw [if_pos hqx, if_pos (h x hqx)]; exact Nat.le_refl 1
        · rw [if_neg hqx]; exact Nat.zero_le _
      simp only [List.countP_cons]
      omega

section
variable {E : Env} {call : FuncId → List PV → Mem → Option (CRes × Mem)} {f : FuncId} {id : Nat} {ops : Array Oper} {ms : List Nat} {N : Nat} {st : Nat → St}

theorem ready_spec {listed : Array Bool} {i : Nat} (h : i ∈ Region.ready .any ops listed) : ∃ o, ops[i]? = some o ∧ listed.getD i false = false ∧ i < listed.size ∧ ∀ j ∈ edgesOf o, listed.getD j false = true := by
  simp only [Region.ready, List.mem_filter, List.mem_range, Bool.and_eq_true, Bool.not_eq_true'] at h
  obtain ⟨hi, h1, h2⟩ := h
  cases ho : ops[i]? with
  | none => simp [ho] at h2
  | some o =>
    simp only [ho, Option.map_some, Option.getD_some] at h2
    have hl : i < listed.size := by
      rcases Nat.lt_or_ge i listed.size with h | h
      · exact h
      · simp [Array.getD_eq_getD_getElem?, Array.getElem?_eq_none h] at h1
    refine ⟨o, rfl, by simp [Array.getD_eq_getD_getElem?, hl] at h1 ⊢; exact h1, hl, fun j hj => ?_⟩
    simp only [edgesOf, List.mem_map, List.mem_filter] at hj
    obtain ⟨e, ⟨he, hb⟩, rfl⟩ := hj
    have := (Array.all_eq_true_iff_forall_mem.1 h2) e (by simpa using he)
    simpa [hb] using this
theorem ready_of {listed : Array Bool} {i : Nat} {o : Oper} (ho : ops[i]? = some o) (hl : listed.size = ops.size) (h1 : listed.getD i false = false) (h2 : ∀ j ∈ edgesOf o, listed.getD j false = true) : i ∈ Region.ready .any ops listed := by
  have hi := (Array.getElem?_eq_some_iff.1 ho).1
  simp only [Region.ready, List.mem_filter, List.mem_range, Bool.and_eq_true, Bool.not_eq_true']
  refine ⟨hi, ?_, ?_⟩
  · have : i < listed.size := by omega
    simp [Array.getD_eq_getD_getElem?, this] at h1 ⊢; exact h1
  · simp only [ho, Option.map_some, Option.getD_some]
    rw [Array.all_eq_true_iff_forall_mem]
    intro e he
    cases hb : Region.binds .any e with
    | false => rfl
    | true =>
      have := h2 e.on (by simp only [edgesOf, List.mem_map, List.mem_filter]; exact ⟨e, ⟨by simpa using he, hb⟩, rfl⟩)
      simp [this]

theorem all_of_none (Z : Stat E.A f id ops ms) {listed : Array Bool} (hl : listed.size = ops.size) (h : Region.ready .any ops listed = []) : ∀ i, i < ops.size → listed.getD i false = true := by
  intro i
  induction i using Nat.strongRecOn with
  | _ i ih =>
    intro hi
    cases hc : listed.getD i false with
    | true => rfl
    | false =>
      have ho := Array.getElem?_eq_getElem hi
      have := ready_of ho hl hc (fun j hj => ih j (Z.edge i _ j ho hj) (by have := Z.edge i _ j ho hj; omega))
      rw [h] at this
      simp at this

theorem mix_all (T : Text E call f ops N st) {S : Nat → Bool} (h : ∀ i, i < N → S i = true) : mixR ops S (st 0).r (st N).r = (st N).r := by
  refine regs_ext (by rw [mixR_len, T.len _ (Nat.le_refl _)]) (fun t ht => ?_)
  rw [mixR_len] at ht
  rw [mixR_get ht]
  split
  · rfl
  · rename_i hc
    refine (T.keep' (by omega) (Nat.le_refl _) (fun k h1 h2 e => hc ⟨k, h k h2, e⟩)).symm
theorem mix_nil (T : Text E call f ops N st) {S : Nat → Bool} (h : ∀ i, S i = false) : mixR ops S (st 0).r (st N).r = (st 0).r := by
  refine regs_ext mixR_len (fun t ht => ?_)
  rw [mixR_len] at ht
  rw [mixR_get ht]
  split
  · rename_i hc
    obtain ⟨j, hj, _⟩ := hc
    rw [h j] at hj; simp at hj
  · rfl

theorem weak_row {σ : Sig} (T : Text E call f ops N st) {S : Nat → Bool} (hb : ∀ b, (ms.getD N 0).testBit b = true → S b = true) (hSN : ∀ j, j < ops.size → S j = true → j < N) {ts : Array Value}
    (h : Row σ (mixR ops S (st 0).r (st N).r) ts) : Row σ (weakR ops ms N (st N).r) ts := by
  have hl : (st N).r.length = (st 0).r.length := T.len N (Nat.le_refl _)
  refine ⟨by rw [← h.1, mixR_len]; simp [weakR, hl], fun j p v hp hv => ?_⟩
  have hj : j < (st 0).r.length := by
    have := (List.getElem?_eq_some_iff.1 hp).1
    simp only [weakR, List.length_map, List.length_range] at this
    omega
  have hjN : j < (st N).r.length := by omega
  have hm : (mixR ops S (st 0).r (st N).r)[j]? = some (get (mixR ops S (st 0).r (st N).r) j) := by
    rw [get_getD, List.getD_eq_getElem?_getD, List.getElem?_eq_getElem (by rw [mixR_len]; exact hj)]
    rfl
  simp only [weakR, List.getElem?_map, List.getElem?_range hjN, Option.map_some, Option.some.injEq] at hp
  split at hp
  · subst hp; exact .dead
  · rename_i hc
    subst hp
    have hmv := h.2 j _ v hm hv
    rw [mixR_get hj] at hmv
    split at hmv
    · exact hmv
    · rename_i hne
      have : get (st N).r j = get (st 0).r j := by
        refine T.keep' (by omega) (Nat.le_refl _) (fun k _ h2 e => ?_)
        cases hbit : (ms.getD N 0).testBit k with
        | true => exact hne ⟨k, hb k hbit, e⟩
        | false =>
          apply hc
          simp only [List.any_eq_true, List.mem_range, Bool.and_eq_true, beq_iff_eq, Bool.not_eq_true']
          exact ⟨k, h2, e, hbit⟩
      rw [this]; exact hmv

theorem any_ok (hc : CallOK E call) (T : Text E call f ops N st) (Z : Stat E.A f id ops ms) (hN : N = ops.size ∨ effO E.A f ops N = true) {fe : Ex} {fs : St}
    (hfin : (N = ops.size ∧ fe = .norm ∧ fs = st N) ∨ (N < ops.size ∧ ∃ o v s', ops[N]? = some o ∧ opStep E call f ops o (st N) = some (.panic v, s') ∧ fe = .panic v ∧ fs = ⟨weakR ops ms N (st N).r, s'.m, (st 0).d⟩ ∧ ∀ j, N < j → j < ops.size → (ms.getD j 0).testBit N = true))
    (hdyn : ∀ (i : Nat) (o : Oper) (x : Nat), i < N → x ≤ N → ops[i]? = some o → x ∈ floOf E.A f id i → wantedP ops (st i).r o = some true → dyn1 E f o (st i).r (st (i + 1)).r (st x).m = true) :
    ∀ (fuel : Nat) (listed : Array Bool) (a : Act) (w : World) (σ : Sig) (x : Nat), listed.size = ops.size → ClosedS ops ms (fun j => listed.getD j false) → (∀ j, j < ops.size → listed.getD j false = true → j < N) → At E f ops N (fun j => listed.getD j false) x →
      (List.range ops.size).countP (fun j => !listed.getD j false) ≤ fuel → Sim σ (st x).m w → GOK E σ → Regs σ ⟨mixR ops (fun j => listed.getD j false) (st 0).r (st N).r, (st x).m, (st 0).d⟩ a →
      wpAny E.P .any ops (Ends σ w fe fs) fuel listed a w := by
  have hend : ∀ (listed : Array Bool) (a : Act) (w : World) (σ : Sig) (x : Nat), listed.size = ops.size → (∀ j, j < ops.size → listed.getD j false = true → j < N) → At E f ops N (fun j => listed.getD j false) x → Sim σ (st x).m w → Regs σ ⟨mixR ops (fun j => listed.getD j false) (st 0).r (st N).r, (st x).m, (st 0).d⟩ a →
      Region.ready .any ops listed = [] → Ends σ w fe fs .normal a w := by
    intro listed a w σ x hl hlN hat hs hr he
    have hall0 := all_of_none Z hl he
    have hNs : N = ops.size := by
      have := T.le
      rcases Nat.eq_or_lt_of_le this with h | h
      · exact h
      · have := hlN N h (hall0 N h); omega
    have hall : ∀ i, i < N → listed.getD i false = true := fun i hi => hall0 i (by omega)
    rcases hfin with ⟨_, rfl, rfl⟩ | ⟨h, _⟩
    case inr => omega
    have hr' : Regs σ (st N) a := ⟨by have := hr.row; simp only [mix_all T hall] at this; exact this, by rw [defs_same T Z _ (Nat.le_refl _)]; exact hr.def_⟩
    have hx : x = N := by
      rcases hat.here with h | ⟨h1, h2⟩
      · exact h
      · obtain ⟨_, _, _, hlt⟩ := effO_lt h1
        have := hall0 x hlt
        have h2' : listed.getD x false = false := h2
        rw [h2'] at this; simp at this
    subst hx
    exact ⟨σ, .refl _ _, .refl _ _, hs, hr', trivial⟩
  intro fuel
  induction fuel with
  | zero =>
    intro listed a w σ x hl hcl hlN hat hcnt hs hg hr
    have hnone : Region.ready .any ops listed = [] := by
      cases hrd : Region.ready .any ops listed with
      | nil => rfl
      | cons i rest =>
        exfalso
        obtain ⟨o, ho, h1, _, _⟩ := ready_spec (ops := ops) (listed := listed) (i := i) (by rw [hrd]; exact List.mem_cons_self)
        have hi := (Array.getElem?_eq_some_iff.1 ho).1
        have : 0 < (List.range ops.size).countP (fun j => !listed.getD j false) := List.countP_pos_iff.2 ⟨i, by simpa using hi, by rw [h1]; rfl⟩
        omega
    exact ⟨hnone, hend listed a w σ x hl hlN hat hs hr hnone⟩
  | succ fuel ih =>
    intro listed a w σ x hl hcl hlN hat hcnt hs hg hr
    refine ⟨hend listed a w σ x hl hlN hat hs hr, fun i hi => ?_⟩
    obtain ⟨o, ho, h1, hil, h2⟩ := ready_spec hi
    have hio := (Array.getElem?_eq_some_iff.1 ho).1
    by_cases hiN : i < N
    case neg =>
      have hbi := Z.before hcl ho h2
      rcases hfin with ⟨h, _⟩ | ⟨hlt, o', v, s', ho', hpan, rfl, rfl, hafter⟩
      · omega
      rcases Nat.eq_or_lt_of_le (Nat.le_of_not_lt hiN) with e | e
      case inr =>
        have := hlN N hlt (hbi N (hafter i e hio))
        omega
      subst e
      rw [ho] at ho'
      obtain rfl := Option.some.inj ho'
      have heN : effO E.A f ops N = true := by
        rcases hN with h | h
        · omega
        · exact h
      have hx : x = N := by
        rcases hat.here with h | ⟨h3, h4⟩
        · exact h
        · rcases Nat.eq_or_lt_of_le hat.le with h | h
          · exact h
          · have := hbi x (Z.eff N x heN h3 h)
            rw [h4] at this; simp at this
      subst hx
      have hlook := looks_same T Z hcl (Nat.le_refl _) ho h1 hbi
      have hpan' : opStep E call f ops o ⟨(st x).r, (st x).m, (st 0).d⟩ = some (.panic v, s') := by
        rw [← defs_same T Z x (Nat.le_refl _)]; exact hpan
      have hst := opStep_congr_panic (r' := mixR ops (fun j => listed.getD j false) (st 0).r (st x).r) (m := (st x).m) hlook hpan'
      have := opStep_sound (s := ⟨mixR ops (fun j => listed.getD j false) (st 0).r (st x).r, (st x).m, (st 0).d⟩) (a := a) (K := wpAny E.P .any ops (Ends σ w (.panic v) ⟨weakR ops ms x (st x).r, s'.m, (st 0).d⟩) fuel (listed.setIfInBounds x true)) (Q := Ends σ w (.panic v) ⟨weakR ops ms x (st x).r, s'.m, (st 0).d⟩) hc hs hg hr hst
        (fun a' w' ⟨_, _, _, _, _, hf⟩ => hf.elim)
        (fun ch a' w' ⟨σ', q1, q2, q3, q4, q5⟩ => ⟨σ', q1, q2, q3, ⟨weak_row T hbi hlN q4.row, q4.def_⟩, q5⟩)
      unfold wpOp
      simp only [ho]
      split
      · rename_i hw; rw [if_pos hw] at this; exact .inl this
      · rename_i hw; rw [if_neg hw] at this; exact this
    obtain ⟨x', hat', hstep⟩ := draw_step T Z hN hdyn hcl hlN hat hiN ho h1 h2
    have hS : (fun j => (listed.setIfInBounds i true).getD j false) = fun j => listed.getD j false || j == i := by
      funext j
      simp only [Array.getD_eq_getD_getElem?, Array.getElem?_setIfInBounds]
      by_cases e : i = j
      · subst e; simp [hil]
      · have e' : (j == i) = false := by simp; exact fun h => e h.symm
        simp [e, e']
    have hlow : (List.range ops.size).countP (fun j => !(listed.setIfInBounds i true).getD j false) ≤ fuel := by
      have hlt := countP_less (p := fun j => !listed.getD j false) (q := fun j => !(listed.setIfInBounds i true).getD j false) (i := i) (by simp only [h1]; rfl)
        (by have : (listed.setIfInBounds i true).getD i false = (listed.getD i false || i == i) := congrFun hS i; simp only [this]; simp)
        (fun j hj => by
          have : (listed.setIfInBounds i true).getD j false = (listed.getD j false || j == i) := congrFun hS j
          simp only [this, Bool.not_or, Bool.and_eq_true] at hj
          exact hj.1) (List.range ops.size) (by simpa using hio)
      omega
    have hwp : ∀ a' w', Ends σ w .norm ⟨mixR ops (fun j => listed.getD j false || j == i) (st 0).r (st N).r, (st x').m, (st 0).d⟩ .normal a' w' →
        wpAny E.P .any ops (Ends σ w fe fs) fuel (listed.setIfInBounds i true) a' w' := by
      intro a' w' ⟨σ', h3, h4, h5, h6, _⟩
      have := ih (listed.setIfInBounds i true) a' w' σ' x' (by simpa using hl) (by rw [hS]; exact Z.closed hcl ho h2) (fun j hj hlj => by
        have : (listed.setIfInBounds i true).getD j false = (listed.getD j false || j == i) := congrFun hS j
        rw [this] at hlj
        simp only [Bool.or_eq_true, beq_iff_eq] at hlj
        rcases hlj with h | h
        · exact hlN j hj h
        · omega) (by rw [hS]; exact hat') hlow h5 (hg.mono h3) (by rw [hS]; exact h6)
      exact wpAny_mono (fun x a w q => q.later h3 h4) _ _ _ _ this
    have := opStep_sound (s := ⟨mixR ops (fun j => listed.getD j false) (st 0).r (st N).r, (st x).m, (st 0).d⟩) (a := a) (K := wpAny E.P .any ops (Ends σ w fe fs) fuel (listed.setIfInBounds i true)) (Q := Ends σ w fe fs) hc hs hg hr hstep hwp
      (fun ch a' w' ⟨_, _, _, _, _, hf⟩ => hf.elim)
    unfold wpOp
    simp only [ho]
    split
    · rename_i hw; rw [if_pos hw] at this; exact .inl this
    · rename_i hw; rw [if_neg hw] at this; exact this

theorem flo_of {f : FuncId} {id i : Nat} {x : Nat} (hx : x ∈ floOf E.A f id i) : ∃ xs, (i, xs) ∈ E.A.flo f id ∧ x ∈ xs := by
  unfold floOf at hx
  cases hlk : (E.A.flo f id).lookup i with
  | none => simp [hlk] at hx
  | some xs =>
    simp only [hlk, Option.getD_some] at hx
    obtain ⟨l1, l2, he, _⟩ := List.lookup_eq_some_iff.1 hlk
    exact ⟨xs, by rw [he]; simp, hx⟩

theorem draw_go (hm : E.P.follows .mixedOrders = true) (hc : CallOK E call) (T : Text E call f ops N st) (Z : Stat E.A f id ops ms) (hN : N = ops.size ∨ effO E.A f ops N = true) {fe : Ex} {fs : St}
    (hfin : (N = ops.size ∧ fe = .norm ∧ fs = st N) ∨ (N < ops.size ∧ ∃ o v s', ops[N]? = some o ∧ opStep E call f ops o (st N) = some (.panic v, s') ∧ fe = .panic v ∧ fs = ⟨weakR ops ms N (st N).r, s'.m, (st 0).d⟩ ∧ ∀ j, N < j → j < ops.size → (ms.getD j 0).testBit N = true))
    (hdyn : ∀ (i : Nat) (o : Oper) (x : Nat), i < N → x ≤ N → ops[i]? = some o → x ∈ floOf E.A f id i → wantedP ops (st i).r o = some true → dyn1 E f o (st i).r (st (i + 1)).r (st x).m = true)
    {σ : Sig} {s : St} {a : Act} {w : World} (hs : Sim σ s.m w) (hg : GOK E σ) (hr : Regs σ s a) (h2 : st 0 = s) : (Code.region id ops true).wp E.P (Ends σ w fe fs) a w := by
  refine wp_region_any hm ?_
  obtain ⟨x, _, hat⟩ := At.find (E := E) (f := f) (ops := ops) (N := N) (fun j => (Array.replicate ops.size false).getD j false) N 0 (by omega) (fun e he => by omega)
  have hno : ∀ j, (Array.replicate ops.size false).getD j false = false := by
    intro j
    simp only [Array.getD_eq_getD_getElem?, Array.getElem?_replicate]
    split <;> rfl
  have hmx : (st x).m = s.m := by
    rw [← h2]
    refine T.mem (by omega) hat.le (fun j _ h5 => ?_)
    cases hj : effO E.A f ops j with
    | false => rfl
    | true => have := hat.before j h5 hj; simp only [hno] at this; simp at this
  have := any_ok hc T Z hN hfin hdyn ops.size (Array.replicate ops.size false) a { w with drawn := w.drawn + 1 } σ x (by simp) (fun i _ hi => by simp only [hno] at hi; simp at hi) (fun j _ hj => by rw [hno] at hj; simp at hj) hat
    (Nat.le_trans List.countP_le_length (by simp)) (by simp only [hmx]; exact hs.drew _) hg ⟨by have e := mix_nil T hno; simp only [h2] at e ⊢; rw [e]; exact hr.row, by simp only [h2]; exact hr.def_⟩
  exact wpAny_mono (fun x a w q => q.later (Ext.refl _ _) (Frm.drew _)) _ _ _ _ this

theorem draw_ok (hm : E.P.follows .mixedOrders = true) (hc : CallOK E call) (hst : (E.A.skip f || statOK E.A f id ops) = true) : DrawOK E (drawE E call) f id ops := by
  intro σ s e s' a w hs hg hr h
  unfold drawE at h
  split at h
  · simp at h
  · rename_i hsk
    have hst' : statOK E.A f id ops = true := by
      rw [Bool.or_eq_true] at hst
      exact hst.resolve_left hsk
    have Z := stat_of hst'
    split at h
    · -- an operation panics
      unfold drawP at h
      split at h
      · simp at h
      · rename_i sts v m hrun
        simp only at h
        obtain ⟨p, h1, h2, h3, h4, o, s2, h5, h6, h7⟩ := runP_spec _ _ _ _ _ hrun
        have hp : sts.length - 1 = p := by omega
        rw [hp] at h
        split at h
        · rename_i hcond
          simp only [Bool.and_eq_true, List.all_eq_true, List.mem_range, Bool.or_eq_true, decide_eq_true_eq] at hcond
          obtain ⟨⟨c1, c2⟩, c3⟩ := hcond
          simp only [Option.some.injEq, Prod.mk.injEq] at h
          obtain ⟨rfl, rfl⟩ := h
          have hps : p < ops.size := by simpa using h1
          have T : Text E call f ops p (fun i => sts.getD i default) := ⟨by omega, fun i o hi ho => h4 i o hi (by simpa using ho)⟩
          refine draw_go hm hc T Z (.inr c1) (.inr ⟨hps, o, v, s2, by simpa using h5, h6, rfl, ?_, fun j hj hjs => (c2 j hjs).resolve_left (by omega)⟩) (fun i o x hi hx ho hflo hw => ?_) hs hg hr h3
          · simp only [h3, h7]
          · obtain ⟨xs, hmem, hxx⟩ := flo_of hflo
            unfold dynOKN at c3
            rw [List.all_eq_true] at c3
            have := c3 _ hmem
            simp only [ho, hw, List.all_eq_true, Bool.or_eq_true, decide_eq_true_eq] at this
            rcases this with h | h
            · omega
            · exact (h x hxx).resolve_left (by omega)
        · simp at h
    · rename_i sts hrun
      split at h
      · rename_i hdy
        simp only [Option.some.injEq, Prod.mk.injEq] at h
        obtain ⟨rfl, rfl⟩ := h
        obtain ⟨h1, h2, h3⟩ := runT_spec _ _ _ hrun
        have T : Text E call f ops ops.size (fun i => sts.getD i default) := ⟨Nat.le_refl _, fun i o _ ho => h3 i o (by simpa using ho)⟩
        refine draw_go hm hc T Z (.inl rfl) (.inl ⟨rfl, rfl, rfl⟩) (fun i o x hi hx ho hflo hw => ?_) hs hg hr h2
        obtain ⟨xs, hmem, hxx⟩ := flo_of hflo
        unfold dynOK at hdy
        rw [List.all_eq_true] at hdy
        have := hdy _ hmem
        simp only [ho, hw, List.all_eq_true] at this
        exact this x hxx
      · simp at h
end

/-- What is to be looked at once for a program. -/
def progOK (A : Ann) (P : Program) : Bool :=
  (List.range P.funcs.size).all fun f => match P.funcs[f]? with
    | none => true
    | some fn => match fn.body with
      | none => true
      | some c => !(fn.name == "runtime.NumGoroutine") && allDraw (fun id ops => A.skip f || statOK A f id ops) c

abbrev run (E : Env) := ev E (drawE E)

theorem ghost_sound {E : Env} (hP : progOK E.A E.P = true) (hm : E.P.follows .mixedOrders = true) (hprim : ∀ g p, E.prim g = some p → FunOK E g p) (n : Nat) (g : FuncId) : FunOK E g (run E n g) := by
  have hP' : ∀ (f : FuncId) (fn : Func) (c : Code), E.P.funcs[f]? = some fn → fn.body = some c → (fn.name == "runtime.NumGoroutine") = false ∧ allDraw (fun id ops => E.A.skip f || statOK E.A f id ops) c = true := by
    intro f fn c hf hb
    unfold progOK at hP
    rw [List.all_eq_true] at hP
    have := hP f (by simpa using (Array.getElem?_eq_some_iff.1 hf).1)
    simp only [hf, hb, Bool.and_eq_true, Bool.not_eq_true'] at this
    exact this
  refine ev_ok (fun f fn hf hb => ?_) hprim (p := fun f id ops => E.A.skip f || statOK E.A f id ops) (fun call hc f id ops h => draw_ok hm hc h) (fun f fn c hf hb => (hP' f fn c hf hb).2) n g
  obtain ⟨c, hc⟩ := Option.isSome_iff_exists.1 hb
  exact (hP' f fn c hf hc).1
end Go.Gm
