/- The ghost machine, part 5: cells that are filled, elements that are read, values without references. -/
import Derived.Test.YtnfbfcheipjonaaGreatDoorGm4
set_option linter.unusedSimpArgs false
set_option linter.unusedVariables false
namespace Go.Gm
variable {P : Program}

theorem okc_live {σ : Sig} {m : Mem} {w : World} (h : Sim σ m w) {v : PV} (hv : okc m v = true) : ∀ b ∈ refs v, σ.B[b]? ≠ some .gone := by
  intro b hb e
  simp only [okc, Bool.and_eq_true, List.all_eq_true] at hv
  have := hv.2 b hb
  have hbl : b < m.length := by rw [← h.len]; exact (List.getElem?_eq_some_iff.1 e).1
  have hB := h.blk b _ m[b] e (List.getElem?_eq_getElem hbl)
  rw [List.getElem?_eq_getElem hbl] at this
  cases hm : m[b] <;> rw [hm] at hB this <;> simp [blkOK] at hB this
theorem okc_one {m : Mem} {v : PV} (hv : okc m v = true) : v.cells.all PV.one = true := by
  simp only [okc, Bool.and_eq_true] at hv; exact hv.1

theorem flat_replicate {α : Type} (l : List α) : ∀ (n j : Nat), j < n * l.length → ((List.replicate n l).flatten)[j]? = l[j % l.length]?
  | 0, j, h => by omega
  | n + 1, j, h => by
    simp only [List.replicate_succ, List.flatten_cons]
    rcases Nat.lt_or_ge j l.length with hj | hj
    · rw [List.getElem?_append_left hj, Nat.mod_eq_of_lt hj]
    · rw [List.getElem?_append_right hj, flat_replicate l n (j - l.length) (by rw [Nat.succ_mul] at h; omega), Nat.mod_eq_sub_mod hj]

/-- Related rows of cells. -/
def Row (σ : Sig) (cs : List PV) (vs : Array Value) : Prop := cs.length = vs.size ∧ ∀ (j : Nat) (p : PV) (v : Value), cs[j]? = some p → vs[j]? = some v → VR σ p v

theorem Row.splice {σ : Sig} {cs : List PV} {vs : Array Value} (h : Row σ cs vs) {off : Nat} {ps : List PV} {us : Array Value} (h' : Row σ ps us) (hl : off + ps.length ≤ cs.length) :
    Row σ (splice cs off ps) (vs.toList.take off ++ us.toList ++ vs.toList.drop (off + us.size)).toArray := by
  obtain ⟨h1, h2⟩ := h
  obtain ⟨h3, h4⟩ := h'
  have e1 : (cs.take off).length = off := by simp; omega
  have e2 : (vs.toList.take off).length = off := by simp; omega
  refine ⟨by simp [Gm.splice]; omega, fun j p v a b => ?_⟩
  simp only [Gm.splice] at a
  simp only [List.getElem?_toArray, List.append_assoc] at b
  rcases Nat.lt_or_ge j off with hj | hj
  · rw [List.getElem?_append_left (by omega), List.getElem?_take_of_lt hj] at a
    rw [List.getElem?_append_left (by omega), List.getElem?_take_of_lt hj] at b
    exact h2 j p v a (by simpa using b)
  · rw [List.getElem?_append_right (by omega), e1] at a
    rw [List.getElem?_append_right (by omega), e2] at b
    rcases Nat.lt_or_ge (j - off) ps.length with hk | hk
    · rw [List.getElem?_append_left hk] at a
      rw [List.getElem?_append_left (by simp; omega)] at b
      exact h4 _ p v a (by simpa using b)
    · rw [List.getElem?_append_right hk, List.getElem?_drop] at a
      rw [List.getElem?_append_right (by simp; omega), List.getElem?_drop] at b
      refine h2 _ p v a ?_
      rw [← b]; simp [← h3]

theorem foldl_set (us : List Value) : ∀ (k off : Nat) (vs : Array Value), off + k + us.length ≤ vs.size →
    ((us.zipIdx k).foldl (fun (cs : Array Value) (c, j) => cs.setIfInBounds (off + j) c) vs) = (vs.toList.take (off + k) ++ us ++ vs.toList.drop (off + k + us.length)).toArray := by
  induction us with
  | nil => intro k off vs h; simp
  | cons u us ih =>
    intro k off vs h
    simp only [List.zipIdx_cons, List.foldl_cons]
    rw [ih (k + 1) off _ (by simp at h ⊢; omega)]
    congr 1
    have e := list_seg_step vs.toList (off + k) u us (by simp at h ⊢; omega)
    simpa [Array.toList_setIfInBounds, Nat.add_assoc] using e

theorem fill_sound {σ : Sig} {m : Mem} {w : World} (hs : Sim σ m w) {ρ : Operand → PV} {ν : Operand → Value} (hρ : ∀ x, VR σ (ρ x) (ν x)) {place place' : Nat → Option (Nat × Nat)} (hp : ∀ i x, place i = some x → place' i = some x) :
    ∀ (parts : List (Nat × Operand)) (cs : List PV) (vs : Array Value) (cs' : List PV), Row σ cs vs → fillP m place cs (parts.map fun p => (p.1, ρ p.2)) = some cs' →
      ∃ vs', Instr.fill place' vs (parts.map fun p => (p.1, ν p.2)) = some vs' ∧ Row σ cs' vs'
  | [], cs, vs, cs', h, e => by
    simp only [List.map_nil, fillP] at e
    obtain rfl := Option.some.inj e
    exact ⟨vs, rfl, h⟩
  | (i, x) :: rest, cs, vs, cs', h, e => by
    simp only [List.map_cons, fillP] at e
    cases hpl : place i with
    | none => simp [hpl] at e
    | some ox =>
      obtain ⟨off, size⟩ := ox
      simp only [hpl] at e
      split at e
      · rename_i hc
        obtain ⟨c1, c2, c3⟩ := hc
        have hx := (hρ x).cells (okc_one c3) (okc_live hs c3)
        have hrow : Row σ (ρ x).cells (ν x).cells := ⟨hx.1, hx.2.1⟩
        have h2 := h.splice hrow (show off + (ρ x).cells.length ≤ cs.length by rw [c1]; exact c2)
        obtain ⟨vs', e1, e2⟩ := fill_sound hs hρ hp rest _ _ cs' h2 e
        refine ⟨vs', ?_, e2⟩
        simp only [List.map_cons, Instr.fill, hp _ _ hpl]
        rw [if_neg (by simp; refine ⟨by omega, by rw [← hx.1, ← h.1]; omega⟩)]
        have hf := foldl_set (ν x).cells.toList 0 off vs (by simp; rw [← hx.1, ← h.1]; omega)
        simp only [Nat.add_zero, Array.length_toList] at hf
        rw [← e1]
        congr 1
        rw [← hf, ← Array.toList_zipIdx, Array.foldl_toList]
      · exact absurd e (by simp)

theorem chunks_length (sz : Nat) : ∀ (n : Nat) (cs : List PV), (chunks sz cs n).length = n
  | 0, _ => rfl
  | n + 1, cs => by simp [chunks, chunks_length sz n]
theorem chunks_get (sz : Nat) : ∀ (n : Nat) (cs : List PV) (i : Nat), i < n → (chunks sz cs n)[i]? = some ((cs.drop (i * sz)).take sz)
  | 0, _, i, h => by omega
  | n + 1, cs, 0, h => by simp [chunks]
  | n + 1, cs, i + 1, h => by
    simp only [chunks, List.getElem?_cons_succ]
    rw [chunks_get sz n _ i (by omega), List.drop_drop]
    congr 3
    rw [Nat.succ_mul]; omega
theorem chunks_at {sz n : Nat} {cs : List PV} {i : Nat} {e : List PV} (h : (chunks sz cs n)[i]? = some e) : i < n ∧ e = (cs.drop (i * sz)).take sz := by
  have hi : i < n := by
    have := (List.getElem?_eq_some_iff.1 h).1
    rwa [chunks_length] at this
  rw [chunks_get sz n cs i hi] at h
  exact ⟨hi, (Option.some.inj h).symm⟩
theorem chunks_cell {sz n : Nat} {cs : List PV} {i j : Nat} {e : List PV} {p : PV} (h : (chunks sz cs n)[i]? = some e) (hp : e[j]? = some p) : i < n ∧ j < sz ∧ cs[i * sz + j]? = some p := by
  obtain ⟨hi, rfl⟩ := chunks_at h
  have hj : j < sz := by
    have := (List.getElem?_eq_some_iff.1 hp).1
    simp at this; omega
  rw [List.getElem?_take_of_lt hj, List.getElem?_drop] at hp
  exact ⟨hi, hj, hp⟩
theorem chunks_size {sz n : Nat} {cs : List PV} (hl : n * sz ≤ cs.length) {e : List PV} (he : e ∈ chunks sz cs n) : e.length = sz := by
  obtain ⟨i, hi0⟩ := List.getElem?_of_mem he
  obtain ⟨hi, rfl⟩ := chunks_at hi0
  have : (i + 1) * sz ≤ n * sz := Nat.mul_le_mul_right _ hi
  rw [Nat.succ_mul] at this
  simp; omega

/-- An append-only block's elements, read as an immutable slice. -/
theorem VR.snap {σ : Sig} {m : Mem} {w : World} (hs : Sim σ m w) {b n sz : Nat} {t : Option TypeId} {es : List (List PV)} (hm : m[b]? = some (.acc t sz es)) {v : Value} (h : VR σ (.acc b n) v) :
    n ≤ es.length ∧ VR σ (.sl false sz (es.take n)) v := by
  cases h with
  | acc g hb h1 h2 h3 h4 h5 h6 h7 =>
    rename_i a c rb K sz' es' ra qa
    have hB := hs.blk b _ _ hb hm
    simp only [blkOK] at hB
    obtain ⟨_, rfl, rfl, hB1, hB2, _⟩ := hB
    refine ⟨h1, ?_⟩
    rcases Nat.eq_zero_or_pos n with h0 | h0
    · subst h0
      simp only [List.take_zero]
      exact .sl0 (by simp)
    · rw [h3 (by omega)]
      have hl : (es.take n).length = n := by simp; omega
      have ht : ∀ {i : Nat} {e : List PV}, (es.take n)[i]? = some e → i < n ∧ es[i]? = some e := by
        intro i e hi
        have hi' := (List.getElem?_eq_some_iff.1 hi).1
        rw [hl] at hi'
        rw [List.getElem?_take_of_lt hi'] at hi
        exact ⟨hi', hi⟩
      have := VR.sl (full := false) (sz := sz) (es := es.take n) (rb := ra) (q := qa) (c := c) g (fun i e a => hB1 e (List.mem_of_getElem? (ht a).2)) (fun i e j p a b => h4 i e j p (ht a).1 (ht a).2 b)
        (fun i e j p a b => h5 i e j p (ht a).1 (ht a).2 b) (fun i e j p a b => h6 i e j p (ht a).1 (ht a).2 b) (by omega) (by simp)
      rwa [hl] at this

theorem pur1_sound {σ : Sig} {m : Mem} {w : World} (hs : Sim σ m w) {p q : PV} (hq : pur1 m p = some q) : refs q = [] ∧ q.one = true ∧ ∀ v, VR σ p v → VR σ q v := by
  unfold pur1 at hq
  split at hq
  · split at hq
    · rename_i hm
      obtain rfl := Option.some.inj hq
      exact ⟨rfl, rfl, fun v h => (h.snap hs hm).2⟩
    · simp at hq
  all_goals first
    | (simp at hq; done)
    | skip
  · split at hq <;> first
      | (obtain rfl := Option.some.inj hq; exact ⟨by simp [refs], rfl, fun _ h => h⟩)
      | simp at hq
  · rename_i h1 h2 hp h3 h4 h5 h6 h7 h8 h9 h10
    obtain rfl := Option.some.inj hq
    cases p <;> first | exact absurd rfl (h1 _ _) | exact absurd rfl (h2 _ _) | exact absurd rfl (hp _ _) | exact absurd rfl (h3 _ _ _ _) | exact absurd rfl (h4 _) | exact absurd rfl (h7 _) | exact absurd rfl (h8 _) | exact absurd rfl h9 | exact absurd rfl (h10 _ _) | exact ⟨rfl, rfl, fun _ h => h⟩ | skip
    rename_i f a c
    cases a <;> cases c <;> first | exact absurd rfl (h5 _ _ _ _) | exact absurd rfl (h6 _ _ _ _) | exact ⟨by simp [refs, refsL], rfl, fun _ h => h⟩

theorem pur_sound {σ : Sig} {m : Mem} {w : World} (hs : Sim σ m w) : ∀ {cs ds : List PV}, pur m cs = some ds → ds.length = cs.length ∧ (∀ (j : Nat) (q : PV), ds[j]? = some q → ∃ p, cs[j]? = some p ∧ pur1 m p = some q)
  | [], ds, h => by
    simp [pur] at h
    subst h
    exact ⟨rfl, fun j q hq => by simp at hq⟩
  | c :: cs, ds, h => by
    simp only [pur, List.mapM_cons] at h
    cases h1 : pur1 m c with
    | none => simp [h1] at h
    | some d =>
      cases h2 : cs.mapM (pur1 m) with
      | none => simp [h1, h2] at h
      | some es =>
        simp [h1, h2] at h
        subst h
        obtain ⟨hl, hh⟩ := pur_sound hs (cs := cs) (ds := es) h2
        refine ⟨by simp [hl], fun j q hq => ?_⟩
        match j with
        | 0 => simp at hq; subst hq; exact ⟨c, rfl, h1⟩
        | j + 1 => simpa using hh j q (by simpa using hq)

end Go.Gm
