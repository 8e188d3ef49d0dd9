/- The ghost machine, part 1: what a pure value says of a value in memory (VR), what ghost memory says of a world (Sim), and that both outlive what happens elsewhere. -/
import Derived.Test.YtnfbfcheipjonaaGreatDoorGm0
namespace Go.Gm

/-- What a ghost block is in a world. -/
inductive BK where
  | var (rb m : Nat)
  | acc (rb : Option Nat) (K sz : Nat) (es : List (List PV))
  | map (rb : Nat)
  | gone
def BK.rb? : BK → Option Nat
  | .var r _ => some r
  | .acc r _ _ _ => r
  | .map r => some r
  | .gone => none
def BK.le : BK → BK → Prop
  | .var r m, .var r' m' => r = r' ∧ m = m'
  | .var _ _, .gone => True
  | .acc r K s es, .acc r' K' s' es' => s' = s ∧ ∃ e2, es' = es ++ e2 ∧ (e2 = [] → r' = r ∧ K' = K)
  | .map r, .map r' => r = r'
  | .gone, .gone => True
  | _, _ => False
theorem BK.le_refl (k : BK) : k.le k := by
  cases k <;> simp [BK.le]
theorem BK.le_trans {a b c : BK} (h : a.le b) (h' : b.le c) : a.le c := by
  cases a <;> cases b <;> cases c <;> simp_all [BK.le]
  obtain ⟨rfl, e2, rfl, h⟩ := h
  obtain ⟨rfl, e3, rfl, h'⟩ := h'
  refine ⟨e2 ++ e3, by simp, ?_⟩
  intro h1
  rw [List.append_eq_nil_iff] at h1
  obtain ⟨rfl, rfl⟩ := h h1.1
  exact h' h1.2

structure Sig where
  I : Nat → Nat → Option Value
  B : List BK

inductive VR (σ : Sig) : PV → Value → Prop
  | bool (b) : VR σ (.bool b) (.bool b)
  | int (k n) : VR σ (.int k n) (.int k n)
  | str (s) : VR σ (.str s) (.string s)
  | nilp : VR σ .nilp (.pointer none)
  | ptr {b o rb m} : σ.B[b]? = some (.var rb m) → VR σ (.ptr b o) (.pointer (some ⟨rb, o, none⟩))
  | ptrG {b o v} : σ.B[b]? = some .gone → VR σ (.ptr b o) v
  | iptr {cs : List PV} {o rb q : Nat} (g : Nat → Value) : (∀ (j : Nat) (p : PV), cs[j]? = some p → σ.I rb (q + j) = some (g j)) → (∀ (j : Nat) (p : PV), cs[j]? = some p → refs p = []) → (∀ (j : Nat) (p : PV), cs[j]? = some p → VR σ p (g j)) →
      VR σ (.iptr cs o) (.pointer (some ⟨rb, q + o, none⟩))
  | nils : VR σ .nils (.slice none 0 0)
  | sl {full : Bool} {sz : Nat} {es : List (List PV)} {rb q c : Nat} (g : Nat → Nat → Value) : (∀ (i : Nat) (e : List PV), es[i]? = some e → e.length = sz) →
      (∀ (i : Nat) (e : List PV) (j : Nat) (p : PV), es[i]? = some e → e[j]? = some p → σ.I rb (q + i * sz + j) = some (g i j)) → (∀ (i : Nat) (e : List PV) (j : Nat) (p : PV), es[i]? = some e → e[j]? = some p → refs p = []) →
      (∀ (i : Nat) (e : List PV) (j : Nat) (p : PV), es[i]? = some e → e[j]? = some p → VR σ p (g i j)) → es.length ≤ c → (full = true → c = es.length) →
      VR σ (.sl full sz es) (.slice (some ⟨rb, q, none⟩) es.length c)
  | sl0 {full sz a c} : (full = true → c = 0) → VR σ (.sl full sz []) (.slice a 0 c)
  | acc {b n : Nat} {a : Option Addr} {c : Nat} {rb : Option Nat} {K sz : Nat} {es : List (List PV)} {ra qa : Nat} (g : Nat → Nat → Value) : σ.B[b]? = some (.acc rb K sz es) → n ≤ es.length → n ≤ c → (n ≠ 0 → a = some ⟨ra, qa, none⟩) →
      (∀ (i : Nat) (e : List PV) (j : Nat) (p : PV), i < n → es[i]? = some e → e[j]? = some p → σ.I ra (qa + i * sz + j) = some (g i j)) → (∀ (i : Nat) (e : List PV) (j : Nat) (p : PV), i < n → es[i]? = some e → e[j]? = some p → refs p = []) → (∀ (i : Nat) (e : List PV) (j : Nat) (p : PV), i < n → es[i]? = some e → e[j]? = some p → VR σ p (g i j)) →
      (n = es.length → match rb with | some r => a = some ⟨r, 0, none⟩ ∧ c = K | none => c = n) → VR σ (.acc b n) (.slice a n c)
  | accp {b n : Nat} {a : Option Addr} {c : Nat} {v : Value} : VR σ (.acc b n) (.slice a n c) → (n ≠ 0 → v = .pointer a) → (∃ q, v = .pointer q) → VR σ (.accp b n) v
  | ref {b sz o n c rb m} : σ.B[b]? = some (.var rb m) → (o + c) * sz = m → n ≤ c → VR σ (.ref b sz o n) (.slice (some ⟨rb, o * sz, none⟩) n c)
  | refG {b sz o n v} : σ.B[b]? = some .gone → VR σ (.ref b sz o n) v
  | nilm : VR σ .nilm (.map none)
  | map {b rb} : σ.B[b]? = some (.map rb) → VR σ (.map b) (.map (some rb))
  | fn {f : Fn} {a c : List PV} {x y : Array Value} : a.length = x.size → c.length = y.size → (∀ (j : Nat) (p : PV) (v : Value), a[j]? = some p → x[j]? = some v → VR σ p v) → (∀ (j : Nat) (p : PV) (v : Value), c[j]? = some p → y[j]? = some v → VR σ p v) →
      VR σ (.fn f a c) (.func f x y)
  | nilfn : VR σ .nilfn .nilFunc
  | iface {t p v} : VR σ p v → VR σ (.iface t p) (.iface t v)
  | nili : VR σ .nili .nilIface
  | agg {cs : List PV} {vs : Array Value} : cs.length = vs.size → (∀ (j : Nat) (p : PV) (v : Value), cs[j]? = some p → vs[j]? = some v → VR σ p v) → VR σ (.agg cs) (.agg vs)
  | tup {cs : List PV} {vs : Array Value} : cs.length = vs.size → (∀ (j : Nat) (p : PV) (v : Value), cs[j]? = some p → vs[j]? = some v → VR σ p v) → VR σ (.tup cs) (.tuple vs)
  | dead {v} : VR σ .dead v

def Owned (σ : Sig) (r : Nat) : Prop := ∃ (i : Nat) (k : BK), σ.B[i]? = some k ∧ k.rb? = some r

/-- How what is known grows, in a step from world w on. -/
structure Ext (σ : Sig) (w : World) (σ' : Sig) : Prop where
  I : ∀ r o v, σ.I r o = some v → σ'.I r o = some v
  B : ∀ (i : Nat) (k : BK), σ.B[i]? = some k → ∃ k' : BK, σ'.B[i]? = some k' ∧ k.le k'
  own : ∀ r, Owned σ' r → r < w.heap.size → Owned σ r
  new : ∀ r o v, σ'.I r o = some v → r < w.heap.size → σ.I r o = some v ∨ Owned σ r

structure Frm (σ : Sig) (w w' : World) : Prop where
  size : w.heap.size ≤ w'.heap.size
  blk : ∀ r, r < w.heap.size → ¬ Owned σ r → w'.heap[r]? = w.heap[r]?
  os : w'.os = w.os
  out : w'.output = w.output
  tape : w'.tape = w.tape

theorem Ext.refl (σ : Sig) (w : World) : Ext σ w σ := ⟨fun _ _ _ h => h, fun _ k h => ⟨k, h, k.le_refl⟩, fun _ h _ => h, fun _ _ _ h _ => .inl h⟩
theorem Frm.refl (σ : Sig) (w : World) : Frm σ w w := ⟨Nat.le_refl _, fun _ _ _ => rfl, rfl, rfl, rfl⟩
theorem Ext.trans {σ σ1 σ2 : Sig} {w w1 : World} (h : Ext σ w σ1) (hf : Frm σ w w1) (h' : Ext σ1 w1 σ2) : Ext σ w σ2 where
  I r o v e := h'.I _ _ _ (h.I _ _ _ e)
  B i k e := by
    obtain ⟨k1, e1, l1⟩ := h.B i k e
    obtain ⟨k2, e2, l2⟩ := h'.B i k1 e1
    exact ⟨k2, e2, BK.le_trans l1 l2⟩
  own r ho hr := h.own r (h'.own r ho (Nat.lt_of_lt_of_le hr hf.size)) hr
  new r o v e hr := by
    rcases h'.new r o v e (Nat.lt_of_lt_of_le hr hf.size) with h1 | h1
    · exact h.new r o v h1 hr
    · exact .inr (h.own r h1 hr)
theorem Frm.trans {σ σ1 : Sig} {w w1 w2 : World} (h : Frm σ w w1) (he : Ext σ w σ1) (h' : Frm σ1 w1 w2) : Frm σ w w2 where
  size := Nat.le_trans h.size h'.size
  blk r hr hn := by
    rw [h'.blk r (Nat.lt_of_lt_of_le hr h.size) (fun ho => hn (he.own r ho hr)), h.blk r hr hn]
  os := h'.os.trans h.os
  out := h'.out.trans h.out
  tape := h'.tape.trans h.tape

/-- What is said of a value is said for ever. -/
theorem VR.mono {σ σ' : Sig} {w : World} (h : Ext σ w σ') {p : PV} {v : Value} (hv : VR σ p v) : VR σ' p v := by
  induction hv with
  | bool => exact .bool _
  | int => exact .int _ _
  | str => exact .str _
  | nilp => exact .nilp
  | ptr e =>
    obtain ⟨k, hk, l⟩ := h.B _ _ e
    cases k <;> simp only [BK.le] at l
    · obtain ⟨rfl, rfl⟩ := l; exact .ptr hk
    · exact .ptrG hk
  | ptrG e =>
    obtain ⟨k, hk, l⟩ := h.B _ _ e
    cases k <;> simp only [BK.le] at l
    exact .ptrG hk
  | iptr g h1 h2 _ ih => exact .iptr g (fun j p e => h.I _ _ _ (h1 j p e)) h2 ih
  | nils => exact .nils
  | sl g h1 h2 h3 _ h5 h6 ih => exact .sl g h1 (fun i e j p a b => h.I _ _ _ (h2 i e j p a b)) h3 ih h5 h6
  | sl0 h1 => exact .sl0 h1
  | acc g e h1 h2 h3 h4 h5 _ h6 ih =>
    rename_i b n a c rb K sz es ra qa
    obtain ⟨k, hk, l⟩ := h.B _ _ e
    cases k <;> simp only [BK.le] at l
    rename_i rb' K' sz' es'
    obtain ⟨rfl, e2, rfl, h7⟩ := l
    refine .acc g hk (by simp; omega) h2 h3 (fun i e j p hi a b => ?_) (fun i e j p hi a b => ?_) (fun i e j p hi a b => ?_) ?_
    · rw [List.getElem?_append_left (by omega)] at a; exact h.I _ _ _ (h4 i e j p hi a b)
    · rw [List.getElem?_append_left (by omega)] at a; exact h5 i e j p hi a b
    · rw [List.getElem?_append_left (by omega)] at a; exact ih i e j p hi a b
    · intro hn
      have : e2 = [] := by
        have : e2.length = 0 := by simp at hn; omega
        exact List.eq_nil_of_length_eq_zero this
      obtain ⟨rfl, rfl⟩ := h7 this
      subst this
      exact h6 (by simpa using hn)
  | accp _ h1 h2 ih => exact .accp ih h1 h2
  | ref e h1 h2 =>
    obtain ⟨k, hk, l⟩ := h.B _ _ e
    cases k <;> simp only [BK.le] at l
    · obtain ⟨rfl, rfl⟩ := l; exact .ref hk h1 h2
    · exact .refG hk
  | refG e =>
    obtain ⟨k, hk, l⟩ := h.B _ _ e
    cases k <;> simp only [BK.le] at l
    exact .refG hk
  | nilm => exact .nilm
  | map e =>
    obtain ⟨k, hk, l⟩ := h.B _ _ e
    cases k <;> simp only [BK.le] at l
    subst l; exact .map hk
  | fn h1 h2 _ _ ih1 ih2 => exact .fn h1 h2 ih1 ih2
  | nilfn => exact .nilfn
  | iface _ ih => exact .iface ih
  | nili => exact .nili
  | agg h1 _ ih => exact .agg h1 ih
  | tup h1 _ ih => exact .tup h1 ih
  | dead => exact .dead

theorem VR.one {σ : Sig} {p : PV} {v : Value} (h : VR σ p v) (h1 : p.one = true) (hg : ∀ b, b ∈ refs1 p → σ.B[b]? ≠ some .gone) : v.oneCell' = true := by
  cases h <;> first
    | (simp_all [PV.one, Value.oneCell', refs1]; done)
    | (rename_i h3; obtain ⟨q, rfl⟩ := h3; rfl)

/-! ### Renaming -/
mutual
theorem ren_nil (g : Nat → Nat) : ∀ p : PV, refs p = [] → ren g p = p
  | .ptr _ _, h | .acc _ _, h | .accp _ _, h | .ref _ _ _ _, h | .map _, h => by simp [refs] at h
  | .fn f a c, h => by simp only [refs, List.append_eq_nil_iff] at h; simp only [ren]; rw [renL_nil g a h.1, renL_nil g c h.2]
  | .iface t v, h => by simp only [refs] at h; simp only [ren]; rw [ren_nil g v h]
  | .agg cs, h => by simp only [refs] at h; simp only [ren]; rw [renL_nil g cs h]
  | .tup cs, h => by simp only [refs] at h; simp only [ren]; rw [renL_nil g cs h]
  | .bool _, _ | .int _ _, _ | .str _, _ | .nilp, _ | .iptr _ _, _ | .nils, _ | .sl _ _ _, _ | .nilm, _ | .nilfn, _ | .nili, _ | .dead, _ => by simp [ren]
theorem renL_nil (g : Nat → Nat) : ∀ l : List PV, refsL l = [] → renL g l = l
  | [], _ => rfl
  | v :: r, h => by simp only [refsL, List.append_eq_nil_iff] at h; simp only [renL]; rw [ren_nil g v h.1, renL_nil g r h.2]
end
theorem renL_map (g : Nat → Nat) (l : List PV) : renL g l = l.map (ren g) := by
  induction l with
  | nil => rfl
  | cons x l ih => simp [renL, ih]
theorem refsL_flat (l : List PV) : refsL l = l.flatMap refs := by
  induction l with
  | nil => rfl
  | cons x l ih => simp [refsL, ih]
theorem mem_refsL {l : List PV} {j : Nat} {p : PV} (h : l[j]? = some p) {b : Nat} (hb : b ∈ refs p) : b ∈ refsL l := by
  rw [refsL_flat, List.mem_flatMap]
  exact ⟨p, List.mem_of_getElem? h, hb⟩

theorem VR.ren {σ σ' : Sig} (hI : σ'.I = σ.I) {g : Nat → Nat} {p : PV} {v : Value} (h : VR σ p v) :
    (∀ b ∈ refs p, σ'.B[g b]? = σ.B[b]?) → VR σ' (ren g p) v := by
  induction h with
  | bool => intro _; exact .bool _
  | int => intro _; exact .int _ _
  | str => intro _; exact .str _
  | nilp => intro _; exact .nilp
  | ptr e => intro hb; exact .ptr (by rw [hb _ (by simp [refs]), e])
  | ptrG e => intro hb; exact .ptrG (by rw [hb _ (by simp [refs]), e])
  | iptr k h1 h2 _ ih =>
    intro _
    exact .iptr k (fun j p e => by rw [hI]; exact h1 j p e) h2 (fun j p e => by have := ih j p e (by simp [h2 j p e]); rwa [ren_nil _ _ (h2 j p e)] at this)
  | nils => intro _; exact .nils
  | sl k h1 h2 h3 _ h5 h6 ih =>
    intro _
    exact .sl k h1 (fun i e j p a b => by rw [hI]; exact h2 i e j p a b) h3 (fun i e j p a b => by have := ih i e j p a b (by simp [h3 i e j p a b]); rwa [ren_nil _ _ (h3 i e j p a b)] at this) h5 h6
  | sl0 h1 => intro _; exact .sl0 h1
  | acc k e h1 h2 h3 h4 h5 _ h6 ih =>
    intro hb
    exact .acc k (by rw [hb _ (by simp [refs]), e]) h1 h2 h3 (fun i e j p hi a b => by rw [hI]; exact h4 i e j p hi a b) h5
      (fun i e j p hi a b => by have := ih i e j p hi a b (by simp [h5 i e j p hi a b]); rwa [ren_nil _ _ (h5 i e j p hi a b)] at this) h6
  | accp _ h1 h2 ih => intro hb; exact .accp (ih (by simpa [refs] using hb)) h1 h2
  | ref e h1 h2 => intro hb; exact .ref (by rw [hb _ (by simp [refs]), e]) h1 h2
  | refG e => intro hb; exact .refG (by rw [hb _ (by simp [refs]), e])
  | nilm => intro _; exact .nilm
  | map e => intro hb; exact .map (by rw [hb _ (by simp [refs]), e])
  | fn h1 h2 _ _ ih1 ih2 =>
    intro hb
    simp only [Gm.ren, renL_map]
    refine .fn (by simpa using h1) (by simpa using h2) ?_ ?_
    · intro j p v a b
      rw [List.getElem?_map] at a
      obtain ⟨q, hq, rfl⟩ := Option.map_eq_some_iff.1 a
      exact ih1 j q v hq b (fun x hx => hb x (by simp only [refs, List.mem_append]; exact .inl (mem_refsL hq hx)))
    · intro j p v a b
      rw [List.getElem?_map] at a
      obtain ⟨q, hq, rfl⟩ := Option.map_eq_some_iff.1 a
      exact ih2 j q v hq b (fun x hx => hb x (by simp only [refs, List.mem_append]; exact .inr (mem_refsL hq hx)))
  | nilfn => intro _; exact .nilfn
  | iface _ ih => intro hb; exact .iface (ih (by simpa [refs] using hb))
  | nili => intro _; exact .nili
  | agg h1 _ ih =>
    intro hb
    simp only [Gm.ren, renL_map]
    refine .agg (by simpa using h1) ?_
    intro j p v a b
    rw [List.getElem?_map] at a
    obtain ⟨q, hq, rfl⟩ := Option.map_eq_some_iff.1 a
    exact ih j q v hq b (fun x hx => hb x (by simp only [refs]; exact mem_refsL hq hx))
  | tup h1 _ ih =>
    intro hb
    simp only [Gm.ren, renL_map]
    refine .tup (by simpa using h1) ?_
    intro j p v a b
    rw [List.getElem?_map] at a
    obtain ⟨q, hq, rfl⟩ := Option.map_eq_some_iff.1 a
    exact ih j q v hq b (fun x hx => hb x (by simp only [refs]; exact mem_refsL hq hx))
  | dead => intro _; exact .dead

end Go.Gm
