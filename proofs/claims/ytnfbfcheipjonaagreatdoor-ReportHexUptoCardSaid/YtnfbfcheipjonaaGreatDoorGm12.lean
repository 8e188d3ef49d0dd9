/- The ghost machine, part 12: append. -/
import Derived.Test.YtnfbfcheipjonaaGreatDoorGm11
set_option linter.unusedSimpArgs false
set_option linter.unusedVariables false
namespace Go.Gm
variable {P : Program}
section
variable {σ : Sig} {m : Mem} {w : World} {ρ : Operand → PV} {ν : Operand → Value} {A : Ann} {f : FuncId} {o : Oper}

theorem cell_heap {w w' : World} (h : w'.heap = w.heap) (a : Addr) : w'.cell? a = w.cell? a := by simp [World.cell?, h]

/-- Elements es lie in vs, cell by cell. -/
def Elems (σ : Sig) (sz : Nat) (es : List (List PV)) (vs : Array Value) : Prop :=
  vs.size = es.length * sz ∧ (∀ e ∈ es, e.length = sz) ∧ ∀ (i : Nat) (e : List PV) (j : Nat) (p : PV), es[i]? = some e → e[j]? = some p → ∃ u, vs[i * sz + j]? = some u ∧ VR σ p u

theorem first_some {size n : Nat} {a : Addr} {k c : Nat} {vs : List Value} (hl : vs.length = n * size) {w : World} (hc : ∀ (j : Nat) (u : Value), vs[j]? = some u → w.cell? (a.add j) = some u) :
    (Builtin.firstCells size n (.slice (some a) k c)).run P w = .ok vs.toArray w := by
  simp only [Builtin.firstCells]
  rw [← hl]
  exact run_loadCells_list w a vs hc

/-- An immutable slice's elements, as the model loads them. -/
theorem elems_sl {full : Bool} {sz : Nat} {es : List (List PV)} {v : Value} (hs : Sim σ m w) (h : VR σ (.sl full sz es) v) :
    ∃ vs : Array Value, Elems σ sz es vs ∧ ∀ w', w'.heap = w.heap → (Builtin.lenOf v).run P w' = .ok es.length w' ∧ (Builtin.firstCells sz es.length v).run P w' = .ok vs w' := by
  cases h with
  | sl0 h1 =>
    rename_i a c
    refine ⟨#[], ⟨by simp, by simp, by simp⟩, fun w' _ => ⟨rfl, ?_⟩⟩
    cases a with
    | none => rfl
    | some a => simp only [Builtin.firstCells, List.length_nil, Nat.zero_mul]; rfl
  | sl g h1 h2 h3 h4 h5 h6 =>
    rename_i rb q c
    have hin : ∀ (i : Nat) (e : List PV) (j : Nat) (p : PV), es[i]? = some e → e[j]? = some p → i * sz + j < es.length * sz := by
      intro i e j p a b
      have hi := (List.getElem?_eq_some_iff.1 a).1
      have hj := (List.getElem?_eq_some_iff.1 b).1
      have := h1 i e a
      calc i * sz + j < i * sz + sz := by omega
        _ = (i + 1) * sz := by rw [Nat.succ_mul]
        _ ≤ _ := Nat.mul_le_mul_right _ hi
    have hcell : ∀ t, t < es.length * sz → ∃ u, w.cell? ⟨rb, q + t, none⟩ = some u ∧ ∀ (i : Nat) (e : List PV) (j : Nat) (p : PV), es[i]? = some e → e[j]? = some p → i * sz + j = t → VR σ p u := by
      intro t ht
      have hsz : 0 < sz := by rcases Nat.eq_zero_or_pos sz with x | x; (subst x; omega); exact x
      have hi : t / sz < es.length := Nat.div_lt_of_lt_mul (by rw [Nat.mul_comm]; exact ht)
      have he : es[t / sz]? = some es[t / sz] := List.getElem?_eq_getElem hi
      have hlen := h1 _ _ he
      have hj : t % sz < es[t / sz].length := by rw [hlen]; exact Nat.mod_lt _ hsz
      have hp := List.getElem?_eq_getElem hj
      have hI := h2 _ _ _ _ he hp
      rw [Nat.add_assoc, Nat.mul_comm, Nat.div_add_mod] at hI
      obtain ⟨c', et, fr, hh, hv⟩ := hs.Ic _ _ _ hI
      refine ⟨_, by rw [cell_of_heap hh]; exact hv, fun i e j p a b hij => ?_⟩
      have hjl : j < sz := by have := (List.getElem?_eq_some_iff.1 b).1; rw [h1 i e a] at this; exact this
      have e1 : t / sz = i := by rw [← hij, Nat.mul_comm, Nat.mul_add_div hsz, Nat.div_eq_of_lt hjl]; omega
      have e2 : t % sz = j := by rw [← hij, Nat.mul_comm, Nat.mul_add_mod, Nat.mod_eq_of_lt hjl]
      rw [e1, e2]
      exact h4 i e j p a b
    refine ⟨((List.range (es.length * sz)).map fun t => (w.cell? ⟨rb, q + t, none⟩).getD undef).toArray, ⟨by simp, fun e he => ?_, fun i e j p a b => ?_⟩, fun w' hw => ⟨rfl, ?_⟩⟩
    · obtain ⟨i, hi⟩ := List.getElem?_of_mem he
      exact h1 i e hi
    · have ht := hin i e j p a b
      obtain ⟨u, hu, hr⟩ := hcell _ ht
      exact ⟨u, by simp [ht, hu], hr i e j p a b rfl⟩
    · refine first_some (by simp) (fun j u hj => ?_)
      rw [List.getElem?_map] at hj
      obtain ⟨t, ht, rfl⟩ := Option.map_eq_some_iff.1 hj
      obtain ⟨hlt, rfl⟩ := List.getElem?_eq_some_iff.1 ht
      simp at hlt
      obtain ⟨u, hu, _⟩ := hcell j hlt
      rw [cell_heap hw, addr_add]
      simp [hu]

theorem elems_sound {p : PV} {v : Value} (hs : Sim σ m w) (h : VR σ p v) {xs : List (List PV)} (he : elems m p = some xs) {sz : Nat} (hz : szOk m sz p = true) :
    ∃ vs : Array Value, Elems σ sz xs vs ∧ ∀ w', w'.heap = w.heap → (Builtin.lenOf v).run P w' = .ok xs.length w' ∧ (Builtin.firstCells sz xs.length v).run P w' = .ok vs w' := by
  unfold elems at he
  split at he
  · obtain rfl := Option.some.inj he
    cases h
    exact ⟨#[], ⟨by simp, by simp, by simp⟩, fun w' _ => ⟨rfl, rfl⟩⟩
  · obtain rfl := Option.some.inj he
    simp only [szOk, beq_iff_eq] at hz
    subst hz
    exact elems_sl hs h
  · rename_i b n
    split at he
    · rename_i s es hm
      obtain rfl := Option.some.inj he
      simp only [szOk, hm, beq_iff_eq] at hz
      subst hz
      obtain ⟨hn, h'⟩ := h.snap hs hm
      exact elems_sl hs h'
    · simp at he
  · rename_i b s oo n
    split at he
    · rename_i cs hm
      split at he
      · rename_i hle
        obtain rfl := Option.some.inj he
        simp only [szOk, beq_iff_eq] at hz
        subst hz
        cases h with
        | refG e =>
          have := hs.blk _ _ _ e hm
          simp [blkOK] at this
        | ref e h4 h5 =>
          rename_i c rb mm
          have hL := lies_var hs e hm
          obtain ⟨vs, hl, hc, hr⟩ := hL.values (oo * s) (n * s) (by rw [← Nat.add_mul]; exact hle)
          have hlen := chunks_length s n (cs.drop (oo * s))
          refine ⟨vs.toArray, ⟨by simp [hl, hlen], fun e he => chunks_size (by simp; rw [Nat.add_mul] at hle; omega) he, fun i e j p a b => ?_⟩, fun w' hw => ⟨by rw [hlen]; rfl, ?_⟩⟩
          · obtain ⟨hi, hj, hp⟩ := chunks_cell a b
            have hlt : i * s + j < n * s := by
              calc i * s + j < i * s + s := by omega
                _ = (i + 1) * s := by rw [Nat.succ_mul]
                _ ≤ _ := Nat.mul_le_mul_right _ hi
            refine ⟨vs[i * s + j]'(by omega), by simp [hl, hlt], hr (i * s + j) p _ ?_ (by simp [hl, hlt])⟩
            rw [List.getElem?_take_of_lt hlt]; exact hp
          · rw [hlen]
            refine first_some (by omega) (fun j u hj => ?_)
            rw [cell_heap hw, addr_add]
            have := hc j u hj
            simpa using this
      · simp at he
    · simp at he
  · rename_i s
    obtain rfl := Option.some.inj he
    simp only [szOk, beq_iff_eq] at hz
    subst hz
    cases h
    refine ⟨s.data.map fun b => .int .u8 b.toNat, ⟨by simp, by simp, fun i e j p a b => ?_⟩, fun w' _ => ⟨?_, ?_⟩⟩
    · rw [List.getElem?_map] at a
      obtain ⟨x, hx, rfl⟩ := Option.map_eq_some_iff.1 a
      match j with
      | 0 =>
        simp at b hx
        subst b
        exact ⟨.int .u8 x.toNat, by simp [hx], .int _ _⟩
      | j + 1 => simp at b
    · simp only [Builtin.lenOf, run_pure', List.length_map, Array.length_toList]; rfl
    · simp only [Builtin.firstCells, run_pure', List.length_map, Array.length_toList]
      have : s.extract 0 s.data.size = s := by
        show s.extract 0 s.size = s
        simp
      rw [this]
  · simp at he

theorem purs_sound (hs : Sim σ m w) {sz : Nat} : ∀ {xs ys : List (List PV)} {vs : Array Value}, xs.mapM (pur m) = some ys → Elems σ sz xs vs →
    Elems σ sz ys vs ∧ ys.length = xs.length ∧ ∀ (i : Nat) (e : List PV) (j : Nat) (p : PV), ys[i]? = some e → e[j]? = some p → refs p = [] := by
  intro xs ys vs h hE
  have key : ys.length = xs.length ∧ ∀ (i : Nat) (e : List PV), ys[i]? = some e → ∃ d, xs[i]? = some d ∧ pur m d = some e := by
    clear hE
    induction xs generalizing ys with
    | nil => simp at h; subst h; simp
    | cons x xs ih =>
      rw [List.mapM_cons] at h
      cases h1 : pur m x with
      | none => simp [h1] at h
      | some d =>
        cases h2 : xs.mapM (pur m) with
        | none => simp [h1, h2] at h
        | some es =>
          simp [h1, h2] at h
          subst h
          obtain ⟨hl, hh⟩ := ih h2
          refine ⟨by simp [hl], fun i e hi => ?_⟩
          match i with
          | 0 => simp at hi; subst hi; exact ⟨x, rfl, h1⟩
          | i + 1 => simpa using hh i e (by simpa using hi)
  refine ⟨⟨by rw [hE.1, key.1], fun e he => ?_, fun i e j p a b => ?_⟩, key.1, fun i e j p a b => ?_⟩
  · obtain ⟨i, hi⟩ := List.getElem?_of_mem he
    obtain ⟨d, hd, hp⟩ := key.2 i e hi
    rw [(pur_sound hs hp).1]
    exact hE.2.1 d (List.mem_of_getElem? hd)
  · obtain ⟨d, hd, hp⟩ := key.2 i e a
    obtain ⟨q, hq, hpq⟩ := (pur_sound hs hp).2 j p b
    obtain ⟨u, hu, hr⟩ := hE.2.2 i d j q hd hq
    exact ⟨u, hu, (pur1_sound hs hpq).2.2 u hr⟩
  · obtain ⟨d, hd, hp⟩ := key.2 i e a
    obtain ⟨q, hq, hpq⟩ := (pur_sound hs hp).2 j p b
    exact (pur1_sound hs hpq).1

end
end Go.Gm
