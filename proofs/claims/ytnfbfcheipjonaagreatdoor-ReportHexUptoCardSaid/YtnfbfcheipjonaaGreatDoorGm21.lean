/- The ghost machine, part 21: what such a call leaves. -/
import Derived.Test.YtnfbfcheipjonaaGreatDoorGm20
set_option linter.unusedSimpArgs false
set_option linter.unusedVariables false
namespace Go.Gm

def FunOK (E : Env) (g : FuncId) (callee : List PV → Mem → Option (CRes × Mem)) : Prop :=
  ∀ (σ : Sig) (m : Mem) (w : World) (as : List PV) (vs : Array Value) (r : CRes) (m' : Mem), Sim σ m w → GOK E σ → Row σ as vs → callee as m = some (r, m') →
    (callFunc g vs).run E.P w = .ok (.enter g vs) w ∧ Calls E.P g vs w (Answers σ w r m')

section
variable {σ σ1 : Sig} {m m' : Mem} {w w' : World}

/-- What there is behind the call, in the caller's numbering. -/
theorem join_ok (hs : Sim σ m w) {L K : List Nat} (hn : L.Nodup) (hKn : K.Nodup) {roots roots' : List Nat} (hc : closedB m L roots = true) (hK : ∀ b ∈ K, L.length ≤ b) (hc' : closedB m' (List.range L.length ++ K) roots' = true) (hle : L.length ≤ m'.length)
    (he : Ext (σ.part L) w σ1) (hf : Frm (σ.part L) w w') (h1 : Sim σ1 m' w') :
    Ext σ w (σ.join σ1 L K) ∧ Frm σ w w' ∧ (∀ c, c ∈ List.range L.length ++ K → (σ.join σ1 L K).B[if c < L.length then L.getD c 0 else m.length + K.idxOf c]? = σ1.B[c]?) ∧
    Sim (σ.join σ1 L K) (((List.range m.length).map fun b => if L.contains b then bren (fun b => if b < L.length then L.getD b 0 else m.length + K.idxOf b) (m'.getD (L.idxOf b) .gone) else m.getD b .gone)
      ++ K.map fun b => bren (fun b => if b < L.length then L.getD b 0 else m.length + K.idxOf b) (m'.getD b .gone)) w' := by
  have hlt : ∀ b ∈ L, b < σ.B.length := fun b hb => by rw [hs.len]; exact closedB_lt hc b hb
  have h1l : L.length ≤ σ1.B.length := by rw [h1.len]; exact hle
  have hKl : ∀ b ∈ K, b < σ1.B.length := fun b hb => by rw [h1.len]; exact closedB_lt hc' b (List.mem_append_right _ hb)
  -- a real block of the caller's, beside what was handed on
  have hout : ∀ (i : Nat) (x : BK) (r : Nat), i ∉ L → σ.B[i]? = some x → x.rb? = some r → ¬ Owned (σ.part L) r := by
    intro i x r hi hx hr ho
    obtain ⟨_, b, y, hb, hy, hyr⟩ := part_owned hlt ho
    exact hs.inj i b x y r (fun e => hi (e ▸ hb)) hx hy hr hyr
  have hout1 : ∀ (i : Nat) (x : BK) (r : Nat), i ∉ L → σ.B[i]? = some x → x.rb? = some r → ¬ Owned σ1 r :=
    fun i x r hi hx hr ho => hout i x r hi hx hr (he.own r ho (Owned.lt hs ⟨i, x, hx, hr⟩))
  have hext : Ext σ w (σ.join σ1 L K) := by
    refine ⟨fun r o v e => he.I r o v e, fun i x hx => ?_, fun r ho hr => ?_, fun r o v e hr => ?_⟩
    · have hl := (List.getElem?_eq_some_iff.1 hx).1
      by_cases hi : i ∈ L
      · rw [join_in hl hi h1l]
        refine he.B _ x ?_
        rw [part_at hi hl]; exact hx
      · exact ⟨x, by rw [join_old hl hi]; exact hx, x.le_refl⟩
    · obtain ⟨i, x, hx, hxr⟩ := ho
      rcases join_at h1l hKl hx with ⟨_, _, h⟩ | ⟨_, _, h⟩ | ⟨b, _, _, _, h⟩
      · exact ⟨i, x, h, hxr⟩
      · exact (part_owned hlt (he.own r ⟨_, x, h, hxr⟩ hr)).1
      · exact (part_owned hlt (he.own r ⟨_, x, h, hxr⟩ hr)).1
    · rcases he.new r o v e hr with h | h
      · exact .inl h
      · exact .inr (part_owned hlt h).1
  have hback : ∀ c, c ∈ List.range L.length ++ K → (σ.join σ1 L K).B[if c < L.length then L.getD c 0 else m.length + K.idxOf c]? = σ1.B[c]? := by
    intro c hcm
    split
    · rename_i hcl
      have hL : L[c]? = some L[c] := List.getElem?_eq_getElem hcl
      have e1 : L.getD c 0 = L[c] := by simp [hcl]
      have hm := List.getElem_mem hcl
      rw [e1, join_in (hlt _ hm) hm h1l, get_idx hn hL]
    · rename_i hcl
      have hcK : c ∈ K := by
        rcases List.mem_append.1 hcm with h | h
        · simp at h; omega
        · exact h
      rw [← hs.len, join_new hcK (hKl c hcK)]
  refine ⟨hext, ⟨hf.size, fun r hr hno => hf.blk r hr (fun ho => hno (part_owned hlt ho).1), hf.os, hf.out, hf.tape⟩, hback, ?_⟩
  refine ⟨by simp [Sig.join, hs.len], fun i x b hx hb => ?_, fun i j x y r hij hx hy hr => ?_, fun r o v h => h1.Ic r o v h, fun i rb n hx o => ?_, fun i r Kc sz es hx o v hv => ?_⟩
  · rcases join_at h1l hKl hx with ⟨hl, hi, h⟩ | ⟨hl, hi, h⟩ | ⟨c, hcK, hci, hl, h⟩
    · have hl' : i < m.length := by rw [← hs.len]; exact hl
      rw [List.getElem?_append_left (by simpa using hl')] at hb
      simp [hl', hi] at hb
      subst hb
      refine (hs.blk i x _ h (List.getElem?_eq_getElem hl')).mono hext (fun r hr => ?_)
      exact hf.blk r (Owned.lt hs ⟨i, x, h, hr⟩) (hout i x r hi h hr)
    · have hl' : i < m.length := by rw [← hs.len]; exact hl
      have hidx := List.idxOf_lt_length_of_mem hi
      have hidm : L.idxOf i < m'.length := by omega
      rw [List.getElem?_append_left (by simpa using hl')] at hb
      simp [hl', hi, hidm] at hb
      subst hb
      refine blkOK_ren (σ := σ1) (σ' := σ.join σ1 L K) rfl (h1.blk _ x _ h (List.getElem?_eq_getElem hidm)) (fun c hcr => hback c ?_)
      exact closedB_refs hc' (L.idxOf i) (List.mem_append_left _ (by simpa using hidx)) c (by simpa [hidm] using hcr)
    · have hcm : c < m'.length := by rw [← h1.len]; exact hKl c hcK
      rw [List.getElem?_append_right (by simp; rw [← hs.len]; exact hl)] at hb
      simp only [List.length_map, List.length_range, List.getElem?_map] at hb
      rw [← hs.len, hci] at hb
      simp [hcm] at hb
      subst hb
      refine blkOK_ren (σ := σ1) (σ' := σ.join σ1 L K) rfl (h1.blk _ x _ h (List.getElem?_eq_getElem hcm)) (fun d hd => ?_)
      have := hback d (closedB_refs hc' c (List.mem_append_right _ hcK) d (by simpa [hcm] using hd))
      rw [← hs.len] at this
      exact this
  · rcases join_at h1l hKl hx with ⟨_, hi, h⟩ | ⟨_, hi, h⟩ | ⟨c, hcK, hci, hl, h⟩ <;> rcases join_at h1l hKl hy with ⟨_, hj, g⟩ | ⟨_, hj, g⟩ | ⟨d, hdK, hdj, hl', g⟩
    · exact hs.inj i j x y r hij h g hr
    · exact fun hr' => hout1 i x r hi h hr ⟨_, y, g, hr'⟩
    · exact fun hr' => hout1 i x r hi h hr ⟨_, y, g, hr'⟩
    · exact fun hr' => hout1 j y r hj g hr' ⟨_, x, h, hr⟩
    · refine h1.inj _ _ x y r (fun e => hij ?_) h g hr
      have a := idx_get hi
      have b := idx_get hj
      rw [e] at a
      exact Option.some.inj (a.symm.trans b)
    · refine h1.inj _ _ x y r (fun e => ?_) h g hr
      have := List.idxOf_lt_length_of_mem hi
      have := hK d hdK
      omega
    · exact fun hr' => hout1 j y r hj g hr' ⟨_, x, h, hr⟩
    · refine h1.inj _ _ x y r (fun e => ?_) h g hr
      have := List.idxOf_lt_length_of_mem hj
      have := hK c hcK
      omega
    · refine h1.inj _ _ x y r (fun e => hij ?_) h g hr
      subst e
      have a := get_idx hKn hci
      have b := get_idx hKn hdj
      omega
  · rcases join_at h1l hKl hx with ⟨_, hi, h⟩ | ⟨_, _, h⟩ | ⟨c, _, _, _, h⟩
    · cases hv : (σ.join σ1 L K).I rb o with
      | none => rfl
      | some v =>
        rcases he.new rb o v hv (Owned.lt hs ⟨i, _, h, rfl⟩) with e | e
        · have e : σ.I rb o = some v := e
          rw [hs.Iv i rb n h o] at e; simp at e
        · exact absurd e (hout i _ rb hi h rfl)
    · exact h1.Iv _ rb n h o
    · exact h1.Iv _ rb n h o
  · rcases join_at h1l hKl hx with ⟨_, hi, h⟩ | ⟨_, _, h⟩ | ⟨c, _, _, _, h⟩
    · rcases he.new r o v hv (Owned.lt hs ⟨i, _, h, rfl⟩) with e | e
      · exact hs.Ia i r Kc sz es h o v e
      · exact absurd e (hout i _ r hi h rfl)
    · exact h1.Ia _ r Kc sz es h o v hv
    · exact h1.Ia _ r Kc sz es h o v hv
end

theorem iso_core {E : Env} {callee : List PV → Mem → Option (CRes × Mem)} {σ : Sig} {m : Mem} {w : World} {as : List PV} {vs : Array Value} {r1 : CRes} {m1 : Mem} (hs : Sim σ m w) (hg : GOK E σ) (hr : Row σ as vs) (h : iso callee as m = some (r1, m1)) :
    ∃ (σp : Sig) (mp : Mem) (asp : List PV) (r : CRes) (m' : Mem) (ρ : Nat → Nat), Sim σp mp w ∧ GOK E σp ∧ Row σp asp vs ∧ callee asp mp = some (r, m') ∧ (∀ p v, refs p = [] → VR σ p v → VR σp p v) ∧ r1 = r.map (ren ρ) ∧
      ∀ (σ1 : Sig) (w' : World), Ext σp w σ1 → Frm σp w w' → Sim σ1 m' w' → ∃ σ', Ext σ w σ' ∧ Frm σ w w' ∧ Sim σ' m1 w' ∧ ∀ p v, p = r.pv → VR σ1 p v → VR σ' (ren ρ p) v := by
  unfold iso at h
  simp only at h
  generalize hL : reach m 1000 (refsL as) [] = L at h
  have hn : L.Nodup := by rw [← hL]; exact reach_nodup _ _ _ _ List.nodup_nil
  split at h
  · rename_i hc
    split at h
    · simp at h
    · rename_i r m' hcall
      generalize hK : (reach m' 1000 (List.range L.length ++ refs r.pv) []).filter (fun b => decide (L.length ≤ b)) = K at h
      have hKn : K.Nodup := by rw [← hK]; exact (reach_nodup _ _ _ _ List.nodup_nil).filter _
      have hKk : ∀ b ∈ K, L.length ≤ b := by intro b hb; rw [← hK, List.mem_filter] at hb; simpa using hb.2
      split at h
      · rename_i hc2
        simp only [Bool.and_eq_true, decide_eq_true_eq] at hc2
        obtain ⟨hc', hle⟩ := hc2
        simp only [Option.some.injEq, Prod.mk.injEq] at h
        obtain ⟨rfl, rfl⟩ := h
        have hlt : ∀ b ∈ L, b < σ.B.length := fun b hb => by rw [hs.len]; exact closedB_lt hc b hb
        have hrow : Row (σ.part L) (renL (fun b => L.idxOf b) as) vs := by
          rw [renL_map]
          refine ⟨by simpa using hr.1, fun j p v a b => ?_⟩
          rw [List.getElem?_map] at a
          obtain ⟨q, hq, rfl⟩ := Option.map_eq_some_iff.1 a
          refine (hr.2 j q v hq b).ren (σ := σ) (σ' := σ.part L) rfl (fun c hcq => ?_)
          have := closedB_roots hc c (mem_refsL hq hcq)
          exact part_at this (hlt c this)
        have hgp : GOK E (σ.part L) := fun x cs e => (hg x cs e).ren (σ := σ) (σ' := σ.part L) (g := id) rfl (fun b hb => by simp [refs] at hb)
        refine ⟨_, _, _, r, m', _, hs.part hn hc, hgp, hrow, hcall, fun p v hp hv => ?_, rfl, fun σ1 w' he hf h1 => ?_⟩
        · have := hv.ren (σ := σ) (σ' := σ.part L) (g := id) rfl (fun b hb => by rw [hp] at hb; simp at hb)
          rwa [ren_nil _ _ hp] at this
        · obtain ⟨j1, j2, j3, j4⟩ := join_ok hs hn hKn hc hKk hc' hle he hf h1
          refine ⟨_, j1, j2, j4, fun p v hp hv => ?_⟩
          refine hv.ren (σ := σ1) (σ' := σ.join σ1 L K) rfl (fun b hb => j3 b ?_)
          exact closedB_roots hc' b (List.mem_append_right _ (by rw [← hp]; exact hb))
      · simp at h
  · simp at h

theorem iso_ok {E : Env} {g : FuncId} {callee : List PV → Mem → Option (CRes × Mem)} (hcal : FunOK E g callee) : FunOK E g (iso callee) := by
  intro σ m w as vs r1 m1 hs hg hr h
  obtain ⟨σp, mp, asp, r, m', ρ, h1, h2, h3, h4, _, rfl, h6⟩ := iso_core hs hg hr h
  obtain ⟨hen, hcs⟩ := hcal _ _ w _ vs r m' h1 h2 h3 h4
  refine ⟨hen, Calls.mono hcs (fun e w' ha => ?_)⟩
  obtain ⟨σ1, he, hf, hs1, hv⟩ := ha
  obtain ⟨σ', j1, j2, j3, j4⟩ := h6 σ1 w' he hf hs1
  refine ⟨σ', j1, j2, j3, ?_⟩
  cases e <;> cases r <;> simp only [CRes.map] at hv ⊢
  · exact j4 _ _ rfl hv
  · obtain ⟨v, g1, g2⟩ := hv
    exact ⟨v, j4 _ _ rfl g1, g2⟩
end Go.Gm
