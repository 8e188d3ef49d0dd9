/- The ghost machine, part 2: ghost memory against a world (Sim); what new blocks, stores and appends do to it. -/
import Derived.Test.YtnfbfcheipjonaaGreatDoorGm1
namespace Go.Gm

/-- Of which type the block is in which the elements lie. -/
def accOK (w : World) (t : Option TypeId) (rb : Option Nat) (es : List (List PV)) : Prop :=
  ∀ e, t = some e → (es ≠ [] → rb ≠ none) ∧ ∀ r, rb = some r → ∃ c fr, w.heap[r]? = some (.cells c e fr)

def blkOK (σ : Sig) (w : World) : BK → Blk → Prop
  | .var rb m, .var et cs => ∃ c, w.heap[rb]? = some (.cells c et.ty (0, 0)) ∧ c.size = m ∧ (cs.length ≤ m ∧ (et.ex = true → cs.length = m)) ∧ ∀ (j : Nat) (p : PV) (v : Value), cs[j]? = some p → c[j]? = some v → VR σ p v
  | .acc rb K sz es, .acc t sz' es' => accOK w t rb es ∧ sz' = sz ∧ es' = es ∧ (∀ e ∈ es, e.length = sz) ∧ (∀ (i : Nat) (e : List PV) (j : Nat) (p : PV), es[i]? = some e → e[j]? = some p → refs p = []) ∧
      match rb with
      | none => True
      | some r => ∃ c et fr, w.heap[r]? = some (.cells c et fr) ∧ c.size = K * sz ∧ es.length ≤ K ∧ fr.2 ≤ es.length * sz ∧
          ∀ (i : Nat) (e : List PV) (j : Nat) (p : PV), es[i]? = some e → e[j]? = some p → ∃ v, c[i * sz + j]? = some v ∧ σ.I r (i * sz + j) = some v ∧ VR σ p v
  | .map rb, .map es => ∃ c k, w.heap[rb]? = some (.map c k) ∧ c.size = es.length ∧ ∀ (i : Nat) (x : PV × PV) (e : MapEntry), es[i]? = some x → c[i]? = some e → VR σ x.1 e.key ∧ VR σ x.2 e.val
  | .gone, .gone => True
  | _, _ => False

structure Sim (σ : Sig) (m : Mem) (w : World) : Prop where
  len : σ.B.length = m.length
  blk : ∀ (i : Nat) (k : BK) (b : Blk), σ.B[i]? = some k → m[i]? = some b → blkOK σ w k b
  inj : ∀ (i j : Nat) (k k' : BK) (r : Nat), i ≠ j → σ.B[i]? = some k → σ.B[j]? = some k' → k.rb? = some r → k'.rb? ≠ some r
  Ic : ∀ r o v, σ.I r o = some v → ∃ c et fr, w.heap[r]? = some (.cells c et fr) ∧ c[o]? = some v
  Iv : ∀ (i rb n : Nat), σ.B[i]? = some (.var rb n) → ∀ o, σ.I rb o = none
  Ia : ∀ (i r K sz : Nat) (es : List (List PV)), σ.B[i]? = some (.acc (some r) K sz es) → ∀ o v, σ.I r o = some v → o < es.length * sz

theorem blkOK.mono {σ σ' : Sig} {w w0 w' : World} {k : BK} {b : Blk} (h : blkOK σ w k b) (he : Ext σ w0 σ') (hk : ∀ r, k.rb? = some r → w'.heap[r]? = w.heap[r]?) : blkOK σ' w' k b := by
  cases k <;> cases b <;> simp only [blkOK] at h ⊢
  · obtain ⟨c, h1, h2, h3, h4⟩ := h
    exact ⟨c, by rw [hk _ rfl]; exact h1, h2, h3, fun j p v a b => (h4 j p v a b).mono he⟩
  · obtain ⟨h0, rfl, rfl, h1, h2, h3⟩ := h
    refine ⟨fun e he => ⟨(h0 e he).1, fun r hr => by rw [hk _ hr]; exact (h0 e he).2 r hr⟩, rfl, rfl, h1, h2, ?_⟩
    split
    · trivial
    · rename_i r
      obtain ⟨c, et, fr, h4, h5, h6, h7, h8⟩ := h3
      refine ⟨c, et, fr, by rw [hk _ rfl]; exact h4, h5, h6, h7, fun i e j p a b => ?_⟩
      obtain ⟨v, x, y, z⟩ := h8 i e j p a b
      exact ⟨v, x, he.I _ _ _ y, z.mono he⟩
  · obtain ⟨c, k, h1, h2, h3⟩ := h
    exact ⟨c, k, by rw [hk _ rfl]; exact h1, h2, fun i x e a b => ⟨(h3 i x e a b).1.mono he, (h3 i x e a b).2.mono he⟩⟩

theorem Owned.lt {σ : Sig} {m : Mem} {w : World} (h : Sim σ m w) {r : Nat} (ho : Owned σ r) : r < w.heap.size := by
  obtain ⟨i, k, hk, hr⟩ := ho
  have hi : i < m.length := by rw [← h.len]; exact (List.getElem?_eq_some_iff.1 hk).1
  have := h.blk i k m[i] hk (List.getElem?_eq_getElem hi)
  cases k <;> simp [BK.rb?] at hr
  · subst hr
    cases hb : m[i] <;> rw [hb] at this <;> simp only [blkOK] at this
    obtain ⟨c, h1, _⟩ := this
    exact (Array.getElem?_eq_some_iff.1 h1).1
  · subst hr
    cases hb : m[i] <;> rw [hb] at this <;> simp only [blkOK] at this
    obtain ⟨_, _, _, _, _, c, et, fr, h1, _⟩ := this
    exact (Array.getElem?_eq_some_iff.1 h1).1
  · subst hr
    cases hb : m[i] <;> rw [hb] at this <;> simp only [blkOK] at this
    obtain ⟨c, k, h1, _⟩ := this
    exact (Array.getElem?_eq_some_iff.1 h1).1
theorem Sim.Ilt {σ : Sig} {m : Mem} {w : World} (h : Sim σ m w) {r o : Nat} {v : Value} (hi : σ.I r o = some v) : r < w.heap.size := by
  obtain ⟨c, et, fr, h1, _⟩ := h.Ic r o v hi
  exact (Array.getElem?_eq_some_iff.1 h1).1

/-- Nothing that was there has turned. -/
theorem Sim.grown {σ : Sig} {m : Mem} {w w' : World} (h : Sim σ m w) (hg : ∀ r, r < w.heap.size → w'.heap[r]? = w.heap[r]?) : Sim σ m w' where
  len := h.len
  blk i k b hk hb := (h.blk i k b hk hb).mono (Ext.refl σ w) (fun r hr => hg r (Owned.lt h ⟨i, k, hk, hr⟩))
  inj := h.inj
  Ic r o v hi := by rw [hg r (h.Ilt hi)]; exact h.Ic r o v hi
  Iv := h.Iv
  Ia := h.Ia

theorem getElem?_snoc {α : Type} {l : List α} {x y : α} {i : Nat} (h : (l ++ [x])[i]? = some y) : l[i]? = some y ∨ (i = l.length ∧ y = x) := by
  rcases Nat.lt_trichotomy i l.length with hi | hi | hi
  · rw [List.getElem?_append_left hi] at h; exact .inl h
  · subst hi; simp at h; exact .inr ⟨rfl, h.symm⟩
  · rw [List.getElem?_eq_none (by simp; omega)] at h; exact absurd h (by simp)

/-- A step that lays one ghost block more, and perhaps one real block. -/
def Sig.add (σ : Sig) (k : BK) : Sig := { σ with B := σ.B ++ [k] }
theorem Sig.add_at {σ : Sig} {k : BK} : (σ.add k).B[σ.B.length]? = some k := by simp [Sig.add]
theorem Sig.add_old {σ : Sig} {k : BK} {i : Nat} {b : BK} (h : σ.B[i]? = some b) : (σ.add k).B[i]? = some b := by
  simp only [Sig.add]; rw [List.getElem?_append_left (List.getElem?_eq_some_iff.1 h).1]; exact h
theorem Ext.add {σ : Sig} {w : World} {k : BK} (hk : ∀ r, k.rb? = some r → w.heap.size ≤ r) : Ext σ w (σ.add k) where
  I _ _ _ h := h
  B i b h := ⟨b, Sig.add_old h, b.le_refl⟩
  own r ho hr := by
    obtain ⟨i, b, hb, hr'⟩ := ho
    rcases getElem?_snoc hb with h | ⟨_, rfl⟩
    · exact ⟨i, b, h, hr'⟩
    · have := hk r hr'; omega
  new _ _ _ h _ := .inl h
theorem Sim.add {σ : Sig} {m : Mem} {w w' : World} (h : Sim σ m w) (k : BK) (b : Blk) (hk : ∀ r, k.rb? = some r → w.heap.size ≤ r)
    (hg : ∀ r, r < w.heap.size → w'.heap[r]? = w.heap[r]?) (hb : blkOK (σ.add k) w' k b) : Sim (σ.add k) (m ++ [b]) w' where
  len := by simp [Sig.add, h.len]
  blk i k' b' hk' hb' := by
    rcases getElem?_snoc hk' with h1 | ⟨h1, rfl⟩
    · have hi : i < m.length := by rw [← h.len]; exact (List.getElem?_eq_some_iff.1 h1).1
      rw [List.getElem?_append_left hi] at hb'
      exact (h.blk i k' b' h1 hb').mono (Ext.add hk) (fun r hr => hg r (Owned.lt h ⟨i, k', h1, hr⟩))
    · rw [h1, h.len] at hb'
      simp at hb'
      subst hb'
      exact hb
  inj i j a c r hij ha hc hr := by
    intro hr'
    rcases getElem?_snoc ha with h1 | ⟨h1, rfl⟩ <;> rcases getElem?_snoc hc with h2 | ⟨h2, rfl⟩
    · exact h.inj i j a c r hij h1 h2 hr hr'
    · have := hk r hr'; have := Owned.lt h ⟨i, a, h1, hr⟩; omega
    · have := hk r hr; have := Owned.lt h ⟨j, c, h2, hr'⟩; omega
    · omega
  Ic r o v hi := by
    have hi : σ.I r o = some v := hi
    rw [hg r (h.Ilt hi)]; exact h.Ic r o v hi
  Iv i rb n hi o := by
    rcases getElem?_snoc hi with h1 | ⟨_, rfl⟩
    · exact h.Iv i rb n h1 o
    · cases hv : (σ.add (.var rb n)).I rb o with
      | none => rfl
      | some v => have hv : σ.I rb o = some v := hv; have := h.Ilt hv; have := hk rb rfl; omega
  Ia i r K sz es hi o v hv := by
    have hv : σ.I r o = some v := hv
    rcases getElem?_snoc hi with h1 | ⟨_, rfl⟩
    · exact h.Ia i r K sz es h1 o v hv
    · have := h.Ilt hv; have := hk r rfl; omega

theorem heap_push_old {w : World} {o : Obj} {r : Nat} (h : r < w.heap.size) : (w.heap.push o)[r]? = w.heap[r]? := by
  rw [Array.getElem?_push_lt h, Array.getElem?_eq_getElem h]
theorem heap_push_new {w : World} {o : Obj} : (w.heap.push o)[w.heap.size]? = some o := by simp

/-- What a step leaves: the new relation, and what it kept. -/
structure Step (σ : Sig) (w : World) (m' : Mem) (p : PV) (σ' : Sig) (w' : World) (v : Value) : Prop where
  ext : Ext σ w σ'
  frm : Frm σ w w'
  sim : Sim σ' m' w'
  val : VR σ' p v

theorem Step.same {σ : Sig} {m : Mem} {w : World} (h : Sim σ m w) {p : PV} {v : Value} (hv : VR σ p v) : Step σ w m p σ w v := ⟨.refl _ _, .refl _ _, h, hv⟩
theorem Frm.push {σ : Sig} {w : World} (o : Obj) : Frm σ w { w with heap := w.heap.push o } := ⟨by simp, fun _ hr _ => heap_push_old hr, rfl, rfl, rfl⟩
theorem Frm.drew {σ : Sig} {w : World} (n : Nat) : Frm σ w { w with drawn := n } := ⟨Nat.le_refl _, fun _ _ _ => rfl, rfl, rfl, rfl⟩
theorem Sim.drew {σ : Sig} {m : Mem} {w : World} (h : Sim σ m w) (n : Nat) : Sim σ m { w with drawn := n } := h.grown (fun _ _ => rfl)

/-- A new variable. -/
theorem Step.newVar {σ : Sig} {m : Mem} {w : World} (h : Sim σ m w) (cs : List PV) (c : Array Value) (t : TypeId) (hl : cs.length = c.size)
    (hv : ∀ (j : Nat) (p : PV) (v : Value), cs[j]? = some p → c[j]? = some v → VR σ p v) :
    Step σ w (m ++ [.var ⟨t, true⟩ cs]) (.ptr m.length 0) (σ.add (.var w.heap.size c.size)) { w with heap := w.heap.push (.cells c t) } (.pointer (some ⟨w.heap.size, 0, none⟩)) := by
  have hx : ∀ r, (BK.var w.heap.size c.size).rb? = some r → w.heap.size ≤ r := by intro r hr; simp [BK.rb?] at hr; omega
  refine ⟨Ext.add hx, Frm.push _, h.add _ _ hx (fun r hr => heap_push_old hr) ?_, .ptr (m := c.size) (by rw [← h.len]; exact Sig.add_at)⟩
  exact ⟨c, heap_push_new, rfl, ⟨Nat.le_of_eq hl, fun _ => hl⟩, fun j p v a b => (hv j p v a b).mono (Ext.add hx)⟩

/-- A block without a tail: elements that lie among what never turns. -/
theorem Step.newAcc0 {σ : Sig} {m : Mem} {w : World} (h : Sim σ m w) (t : Option TypeId) (sz : Nat) (es : List (List PV)) (ht : t = none ∨ es = []) (hs : ∀ e ∈ es, e.length = sz)
    (hp : ∀ (i : Nat) (e : List PV) (j : Nat) (p : PV), es[i]? = some e → e[j]? = some p → refs p = []) :
    Ext σ w (σ.add (.acc none 0 sz es)) ∧ Sim (σ.add (.acc none 0 sz es)) (m ++ [.acc t sz es]) w := by
  have hx : ∀ r, (BK.acc none 0 sz es).rb? = some r → w.heap.size ≤ r := by intro r hr; simp [BK.rb?] at hr
  exact ⟨Ext.add hx, h.add _ _ hx (fun _ _ => rfl) ⟨fun e he => ⟨fun hne => by rcases ht with h | h; (rw [h] at he; cases he); exact absurd h hne, fun r hr => by cases hr⟩, rfl, rfl, hs, hp, trivial⟩⟩

end Go.Gm
