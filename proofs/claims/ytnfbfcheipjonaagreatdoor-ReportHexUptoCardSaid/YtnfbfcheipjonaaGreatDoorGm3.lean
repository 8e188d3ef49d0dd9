/- The ghost machine, part 3: what a literal, a store and an append leave. -/
import Derived.Test.YtnfbfcheipjonaaGreatDoorGm2
namespace Go.Gm

def Sig.imm (σ : Sig) (r : Nat) (c : Array Value) : Sig := { σ with I := fun r' o => if r' = r then c[o]? else σ.I r' o }
theorem Ext.imm {σ : Sig} {m : Mem} {w : World} (h : Sim σ m w) (c : Array Value) : Ext σ w (σ.imm w.heap.size c) where
  I r o v e := by
    have := h.Ilt e
    simp only [Sig.imm]; rw [if_neg (by omega)]; exact e
  B i k e := ⟨k, e, k.le_refl⟩
  own r ho _ := ho
  new r o v e hr := by
    simp only [Sig.imm] at e; rw [if_neg (by omega)] at e; exact .inl e
theorem Sim.imm {σ : Sig} {m : Mem} {w : World} (h : Sim σ m w) (c : Array Value) (t : TypeId) : Sim (σ.imm w.heap.size c) m { w with heap := w.heap.push (.cells c t) } where
  len := h.len
  blk i k b hk hb := (h.blk i k b hk hb).mono (Ext.imm h c) (fun r hr => heap_push_old (Owned.lt h ⟨i, k, hk, hr⟩))
  inj := h.inj
  Ic r o v hi := by
    by_cases hr : r = w.heap.size
    · subst hr
      simp only [Sig.imm, if_true] at hi
      exact ⟨c, t, (0, 0), heap_push_new, hi⟩
    · simp only [Sig.imm] at hi
      rw [if_neg hr] at hi
      rw [heap_push_old (h.Ilt hi)]
      exact h.Ic r o v hi
  Iv i rb n hi o := by
    have hi : σ.B[i]? = some (.var rb n) := hi
    have := Owned.lt h ⟨i, _, hi, rfl⟩
    simp only [Sig.imm]
    rw [if_neg (by omega)]
    exact h.Iv i rb n hi o
  Ia i r K sz es hi o v hv := by
    have hi : σ.B[i]? = some (.acc (some r) K sz es) := hi
    have := Owned.lt h ⟨i, _, hi, rfl⟩
    simp only [Sig.imm] at hv
    rw [if_neg (by omega)] at hv
    exact h.Ia i r K sz es hi o v hv

theorem set_get_ne {α : Type} {l : List α} {i j : Nat} {x : α} (h : i ≠ j) : (l.set i x)[j]? = l[j]? := List.getElem?_set_ne h
theorem set_get {α : Type} {l : List α} {i j : Nat} {x y : α} (h : (l.set i x)[j]? = some y) : (i = j ∧ y = x) ∨ (i ≠ j ∧ l[j]? = some y) := by
  by_cases e : i = j
  · subst e
    left
    rw [List.getElem?_set_self'] at h
    cases hl : l[i]? <;> simp [hl] at h
    exact ⟨rfl, h.symm⟩
  · exact .inr ⟨e, by rwa [List.getElem?_set_ne e] at h⟩

/-- What a variable holds is turned. -/
theorem Step.setVar {σ : Sig} {m : Mem} {w w' : World} (h : Sim σ m w) {b rb n : Nat} (hb : σ.B[b]? = some (.var rb n)) (cs : List PV) (c : Array Value) (et : VT)
    (hw : w'.heap[rb]? = some (.cells c et.ty (0, 0))) (hn : c.size = n) (hl : cs.length ≤ n ∧ (et.ex = true → cs.length = n)) (hv : ∀ (j : Nat) (p : PV) (v : Value), cs[j]? = some p → c[j]? = some v → VR σ p v)
    (ho : ∀ r, r ≠ rb → w'.heap[r]? = w.heap[r]?) (hz : w'.heap.size = w.heap.size) (h1 : w'.os = w.os) (h2 : w'.output = w.output) (h3 : w'.tape = w.tape) {p : PV} {v : Value} (hp : VR σ p v) :
    Step σ w (m.set b (.var et cs)) p σ w' v := by
  refine ⟨.refl _ _, ⟨by omega, fun r _ hr => ho r (fun e => hr ⟨b, _, hb, by rw [e]; rfl⟩), h1, h2, h3⟩, ?_, hp⟩
  refine ⟨by simp [h.len], fun i k x hk hx => ?_, h.inj, fun r o v hi => ?_, h.Iv, h.Ia⟩
  · rcases set_get hx with ⟨rfl, rfl⟩ | ⟨hne, hx⟩
    · rw [hb] at hk
      obtain rfl := Option.some.inj hk
      exact ⟨c, hw, hn, hl, hv⟩
    · refine (h.blk i k x hk hx).mono (Ext.refl σ w) (fun r hr => ho r ?_)
      rintro rfl
      exact h.inj b i _ k r hne hb hk rfl hr
  · rw [ho r (fun e => by rw [e, h.Iv b rb n hb o] at hi; simp at hi)]
    exact h.Ic r o v hi

/-- An append-only block grows, where it lies or elsewhere. -/
def Sig.app (σ : Sig) (b r : Nat) (K sz : Nat) (es : List (List PV)) (c : Array Value) : Sig :=
  { I := fun r' o => if r' = r ∧ o < es.length * sz then c[o]? else σ.I r' o, B := σ.B.set b (.acc (some r) K sz es) }
theorem Step.app {σ : Sig} {m : Mem} {w w' : World} (h : Sim σ m w) {b : Nat} {rb : Option Nat} {K sz : Nat} {es : List (List PV)} (hb : σ.B[b]? = some (.acc rb K sz es)) (r K' : Nat) (e2 : List (List PV)) (he2 : e2 ≠ [])
    (c : Array Value) (et : TypeId) (fr : Nat × Nat) (hr : w.heap.size ≤ r ∨ rb = some r) {t' : Option TypeId} (ht' : ∀ e, t' = some e → et = e) (hw : w'.heap[r]? = some (.cells c et fr)) (hz : c.size = K' * sz) (hK : (es ++ e2).length ≤ K') (hfr : fr.2 ≤ es.length * sz)
    (hs : ∀ e ∈ e2, e.length = sz) (hp : ∀ (i : Nat) (e : List PV) (j : Nat) (p : PV), e2[i]? = some e → e[j]? = some p → refs p = [])
    (hv : ∀ (i : Nat) (e : List PV) (j : Nat) (p : PV), (es ++ e2)[i]? = some e → e[j]? = some p → ∃ v, c[i * sz + j]? = some v ∧ VR σ p v)
    (hold : ∀ o v, σ.I r o = some v → c[o]? = some v) (ho : ∀ x, x < w.heap.size → x ≠ r → w'.heap[x]? = w.heap[x]?)
    (hsz : w.heap.size ≤ w'.heap.size) (h1 : w'.os = w.os) (h2 : w'.output = w.output) (h3 : w'.tape = w.tape) :
    Step σ w (m.set b (.acc t' sz (es ++ e2))) (.acc b (es ++ e2).length) (σ.app b r K' sz (es ++ e2) c) w' (.slice (some ⟨r, 0, none⟩) (es ++ e2).length K') := by
  have hbl : b < σ.B.length := (List.getElem?_eq_some_iff.1 hb).1
  have hbm : b < m.length := by rw [← h.len]; exact hbl
  have hmb : ∃ x, m[b]? = some x := ⟨_, List.getElem?_eq_getElem hbm⟩
  obtain ⟨x, hx⟩ := hmb
  have hB := h.blk b _ x hb hx
  have hes : (∀ e ∈ es, e.length = sz) ∧ ∀ (i : Nat) (e : List PV) (j : Nat) (p : PV), es[i]? = some e → e[j]? = some p → refs p = [] := by
    cases x <;> simp only [blkOK] at hB
    exact ⟨hB.2.2.2.1, hB.2.2.2.2.1⟩
  have hlen : ∀ e ∈ es ++ e2, e.length = sz := by
    intro e he
    rcases List.mem_append.1 he with h | h
    · exact hes.1 e h
    · exact hs e h
  have hpure : ∀ (i : Nat) (e : List PV) (j : Nat) (p : PV), (es ++ e2)[i]? = some e → e[j]? = some p → refs p = [] := by
    intro i e j p a q
    rcases Nat.lt_or_ge i es.length with hi | hi
    · rw [List.getElem?_append_left hi] at a; exact hes.2 i e j p a q
    · rw [List.getElem?_append_right hi] at a; exact hp _ e j p a q
  have hin : ∀ (i : Nat) (e : List PV) (j : Nat) (p : PV), (es ++ e2)[i]? = some e → e[j]? = some p → i * sz + j < (es ++ e2).length * sz := by
    intro i e j p a q
    have hi := (List.getElem?_eq_some_iff.1 a).1
    have hj := (List.getElem?_eq_some_iff.1 q).1
    have := hlen e (List.mem_of_getElem? a)
    calc i * sz + j < i * sz + sz := by omega
      _ = (i + 1) * sz := by rw [Nat.succ_mul]
      _ ≤ _ := Nat.mul_le_mul_right _ hi
  have hIat : ∀ o, o < (es ++ e2).length * sz → (σ.app b r K' sz (es ++ e2) c).I r o = c[o]? := fun o ho => if_pos ⟨rfl, ho⟩
  have hrI : ∀ o v, σ.I r o = some v → o < (es ++ e2).length * sz := by
    intro o v hi
    rcases hr with hr | hr
    · have := h.Ilt hi; omega
    · subst hr
      have := h.Ia b r K sz es hb o v hi
      have : es.length * sz ≤ (es ++ e2).length * sz := Nat.mul_le_mul_right _ (by simp)
      omega
  have hext : Ext σ w (σ.app b r K' sz (es ++ e2) c) := by
    refine ⟨fun r' o v hi => ?_, fun i k hk => ?_, fun r' ho' hlt => ?_, fun r' o v hi hlt => ?_⟩
    · by_cases e : r' = r
      · subst e; rw [hIat o (hrI o v hi)]; exact hold o v hi
      · simp only [Sig.app]; rw [if_neg (fun x => e x.1)]; exact hi
    · by_cases e : b = i
      · subst e
        rw [hb] at hk
        obtain rfl := Option.some.inj hk
        refine ⟨.acc (some r) K' sz (es ++ e2), by simp [Sig.app, hbl], rfl, e2, rfl, fun x => absurd x he2⟩
      · exact ⟨k, by simp only [Sig.app]; rw [set_get_ne e]; exact hk, k.le_refl⟩
    · obtain ⟨i, k, hk, hkr⟩ := ho'
      rcases set_get hk with ⟨rfl, rfl⟩ | ⟨hne, hk⟩
      · simp [BK.rb?] at hkr
        subst hkr
        rcases hr with hr | hr
        · omega
        · subst hr; exact ⟨b, _, hb, rfl⟩
      · exact ⟨i, k, hk, hkr⟩
    · by_cases e : r' = r
      · subst e
        rcases hr with hr | hr
        · omega
        · subst hr; exact .inr ⟨b, _, hb, rfl⟩
      · simp only [Sig.app] at hi
        rw [if_neg (fun x => e x.1)] at hi
        exact .inl hi
  have hother : ∀ (i : Nat) (k : BK) (x : Nat), b ≠ i → σ.B[i]? = some k → k.rb? = some x → x ≠ r := by
    intro i k x hne hk hkx e
    subst e
    rcases hr with hr | hr
    · have := Owned.lt h ⟨i, k, hk, hkx⟩; omega
    · subst hr; exact h.inj b i _ k x hne hb hk rfl hkx
  refine ⟨hext, ⟨hsz, fun x hx hn => ho x hx ?_, h1, h2, h3⟩, ?_, ?_⟩
  · rintro rfl
    rcases hr with hr | hr
    · omega
    · subst hr; exact hn ⟨b, _, hb, rfl⟩
  · refine ⟨by simp [Sig.app, h.len], fun i k x hk hx => ?_, fun i j k k' x hij hk hk' hkx => ?_, fun r' o v hi => ?_, fun i rb' n hi o => ?_, fun i r' K1 sz1 es1 hi o v hv' => ?_⟩
    · rcases set_get hk with ⟨rfl, rfl⟩ | ⟨hne, hk⟩
      · rcases set_get hx with ⟨_, rfl⟩ | ⟨hne, _⟩
        · refine ⟨fun e he => ⟨fun _ => by simp, fun r hr => by cases hr; rw [← ht' e he]; exact ⟨c, fr, hw⟩⟩, rfl, rfl, hlen, hpure, c, et, fr, hw, hz, hK, ?_, fun i e j p a q => ?_⟩
          · have : es.length * sz ≤ (es ++ e2).length * sz := Nat.mul_le_mul_right _ (by simp)
            omega
          · obtain ⟨v, hv1, hv2⟩ := hv i e j p a q
            exact ⟨v, hv1, by rw [hIat _ (hin i e j p a q)]; exact hv1, hv2.mono hext⟩
        · exact absurd rfl hne
      · rw [set_get_ne hne] at hx
        exact (h.blk i k x hk hx).mono hext (fun x hkx => ho x (Owned.lt h ⟨i, k, hk, hkx⟩) (hother i k x hne hk hkx))
    · intro hkx'
      rcases set_get hk with ⟨rfl, rfl⟩ | ⟨hne, hk⟩ <;> rcases set_get hk' with ⟨rfl, rfl⟩ | ⟨hne', hk'⟩
      · exact hij rfl
      · simp [BK.rb?] at hkx; subst hkx; exact hother j k' _ hne' hk' hkx' rfl
      · simp [BK.rb?] at hkx'; subst hkx'; exact hother i k _ hne hk hkx rfl
      · exact h.inj i j k k' x hij hk hk' hkx hkx'
    · by_cases e : r' = r ∧ o < (es ++ e2).length * sz
      · obtain ⟨rfl, e⟩ := e
        rw [hIat o e] at hi
        exact ⟨c, et, fr, hw, hi⟩
      · simp only [Sig.app] at hi
        rw [if_neg e] at hi
        by_cases e' : r' = r
        · subst e'; exact absurd ⟨rfl, hrI o v hi⟩ e
        · rw [ho r' (h.Ilt hi) e']; exact h.Ic r' o v hi
    · rcases set_get hi with ⟨_, hx⟩ | ⟨hne, hi⟩
      · exact absurd hx (by simp)
      · simp only [Sig.app]
        rw [if_neg (fun x => hother i _ rb' hne hi rfl x.1)]
        exact h.Iv i rb' n hi o
    · rcases set_get hi with ⟨_, hx⟩ | ⟨hne, hi⟩
      · obtain ⟨x1, x2, x3, x4⟩ : r' = r ∧ K1 = K' ∧ sz1 = sz ∧ es1 = es ++ e2 := by simpa using hx
        rw [x3, x4]
        rw [x1] at hv'
        by_cases e : o < (es ++ e2).length * sz
        · exact e
        · simp only [Sig.app] at hv'
          rw [if_neg (fun x => e x.2)] at hv'
          exact hrI o v hv'
      · simp only [Sig.app] at hv'
        rw [if_neg (fun x => hother i _ r' hne hi rfl x.1)] at hv'
        exact h.Ia i r' K1 sz1 es1 hi o v hv'
  · have hat : (σ.app b r K' sz (es ++ e2) c).B[b]? = some (.acc (some r) K' sz (es ++ e2)) := by simp [Sig.app, hbl]
    refine .acc (ra := r) (qa := 0) (rb := some r) (K := K') (fun i j => c.getD (i * sz + j) undef) hat (Nat.le_refl _) hK (fun _ => rfl) (fun i e j p _ a q => ?_) (fun i e j p _ a q => hpure i e j p a q) (fun i e j p _ a q => ?_) (fun _ => ⟨rfl, rfl⟩)
    · obtain ⟨v, hv1, _⟩ := hv i e j p a q
      rw [Nat.zero_add, hIat _ (hin i e j p a q), hv1]
      simp [Array.getD_eq_getD_getElem?, hv1]
    · obtain ⟨v, hv1, hv2⟩ := hv i e j p a q
      have : c.getD (i * sz + j) undef = v := by simp [Array.getD_eq_getD_getElem?, hv1]
      rw [this]; exact hv2.mono hext

end Go.Gm
