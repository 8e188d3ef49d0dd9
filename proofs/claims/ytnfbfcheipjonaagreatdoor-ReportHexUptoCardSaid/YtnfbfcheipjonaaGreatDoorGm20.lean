/- The ghost machine, part 20: a call on the part of memory that its arguments reach. -/
import Derived.Test.YtnfbfcheipjonaaGreatDoorGm19
set_option linter.unusedSimpArgs false
set_option linter.unusedVariables false
namespace Go.Gm

theorem reach_nodup (m : Mem) : ∀ (n : Nat) (todo seen : List Nat), seen.Nodup → (reach m n todo seen).Nodup
  | 0, _, seen, h => by simpa [reach] using h
  | n + 1, [], seen, h => by simpa [reach] using h
  | n + 1, b :: todo, seen, h => by
    unfold reach
    split
    · exact reach_nodup m n todo seen h
    · rename_i hc
      refine reach_nodup m n _ _ ?_
      simp only [Bool.or_eq_true, List.contains_iff_mem, decide_eq_true_eq, not_or] at hc
      rw [List.nodup_append]
      exact ⟨h, by simp, fun x hx y hy => by simp at hy; subst hy; rintro rfl; exact hc.1 hx⟩

theorem closedB_lt {m : Mem} {L roots : List Nat} (h : closedB m L roots = true) : ∀ b ∈ L, b < m.length := by
  simp only [closedB, Bool.and_eq_true, List.all_eq_true, decide_eq_true_eq] at h
  exact h.1.1
theorem closedB_roots {m : Mem} {L roots : List Nat} (h : closedB m L roots = true) : ∀ b ∈ roots, b ∈ L := by
  simp only [closedB, Bool.and_eq_true, List.all_eq_true, decide_eq_true_eq, List.contains_iff_mem] at h
  exact h.1.2
theorem closedB_refs {m : Mem} {L roots : List Nat} (h : closedB m L roots = true) : ∀ b ∈ L, ∀ c ∈ brefs (m.getD b .gone), c ∈ L := by
  simp only [closedB, Bool.and_eq_true, List.all_eq_true, decide_eq_true_eq, List.contains_iff_mem] at h
  exact h.2

theorem idx_get {L : List Nat} {b : Nat} (h : b ∈ L) : L[L.idxOf b]? = some b := by
  have hl := List.idxOf_lt_length_of_mem h
  rw [List.getElem?_eq_getElem hl, List.getElem_idxOf hl]
theorem get_idx {L : List Nat} (hn : L.Nodup) {i b : Nat} (h : L[i]? = some b) : L.idxOf b = i := by
  obtain ⟨hi, rfl⟩ := List.getElem?_eq_some_iff.1 h
  exact hn.idxOf_getElem i hi

section
variable {σ : Sig} {m : Mem} {w : World}

/-- A ghost block under another numbering. -/
theorem blkOK_ren {σ' : Sig} {g : Nat → Nat} (hI : σ'.I = σ.I) {k : BK} {b : Blk} (h : blkOK σ w k b) (hB : ∀ c ∈ brefs b, σ'.B[g c]? = σ.B[c]?) : blkOK σ' w k (bren g b) := by
  cases k <;> cases b <;> simp only [blkOK, bren] at h ⊢
  · obtain ⟨c, h1, h2, h3, h4⟩ := h
    refine ⟨c, h1, h2, by simpa [renL_map] using h3, fun j p v a b => ?_⟩
    rw [renL_map, List.getElem?_map] at a
    obtain ⟨q, hq, rfl⟩ := Option.map_eq_some_iff.1 a
    exact (h4 j q v hq b).ren hI (fun c hc => hB c (by simp only [brefs]; exact mem_refsL hq hc))
  · obtain ⟨h0, rfl, rfl, h1, h2, h3⟩ := h
    refine ⟨h0, rfl, rfl, h1, h2, ?_⟩
    split
    · trivial
    · rename_i r
      obtain ⟨c, et, fr, h4, h5, h6, h7, h8⟩ := h3
      refine ⟨c, et, fr, h4, h5, h6, h7, fun i e j p a b => ?_⟩
      obtain ⟨v, x, y, z⟩ := h8 i e j p a b
      refine ⟨v, x, by rw [hI]; exact y, ?_⟩
      have hp := h2 i e j p a b
      have := z.ren (σ' := σ') (g := g) hI (fun c hc => by rw [hp] at hc; simp at hc)
      rwa [ren_nil _ _ hp] at this
  · obtain ⟨c, k, h1, h2, h3⟩ := h
    refine ⟨c, k, h1, by simpa using h2, fun i x e a b => ?_⟩
    rw [List.getElem?_map] at a
    obtain ⟨q, hq, rfl⟩ := Option.map_eq_some_iff.1 a
    obtain ⟨h4, h5⟩ := h3 i q e hq b
    have hm : ∀ c, c ∈ refs q.1 ++ refs q.2 → σ'.B[g c]? = σ.B[c]? := fun c hc => hB c (by simp only [brefs, List.mem_flatMap]; exact ⟨q, List.mem_of_getElem? hq, hc⟩)
    exact ⟨h4.ren hI (fun c hc => hm c (List.mem_append_left _ hc)), h5.ren hI (fun c hc => hm c (List.mem_append_right _ hc))⟩

def Sig.part (σ : Sig) (L : List Nat) : Sig := { σ with B := L.map fun b => σ.B.getD b .gone }
theorem part_at {L : List Nat} {b : Nat} (hb : b ∈ L) (hl : b < σ.B.length) : (σ.part L).B[L.idxOf b]? = σ.B[b]? := by
  simp only [Sig.part, List.getElem?_map, idx_get hb, Option.map_some]
  simp [hl]
theorem part_at' {L : List Nat} {i : Nat} {x : BK} (hlt : ∀ b ∈ L, b < σ.B.length) (h : (σ.part L).B[i]? = some x) : ∃ b, L[i]? = some b ∧ σ.B[b]? = some x := by
  simp only [Sig.part, List.getElem?_map] at h
  obtain ⟨b, hb, rfl⟩ := Option.map_eq_some_iff.1 h
  have := hlt b (List.mem_of_getElem? hb)
  exact ⟨b, hb, by simp [this]⟩

theorem Sim.part (hs : Sim σ m w) {L : List Nat} (hn : L.Nodup) {roots : List Nat} (hc : closedB m L roots = true) : Sim (σ.part L) (L.map fun b => bren (fun b => L.idxOf b) (m.getD b .gone)) w where
  len := by simp [Sig.part]
  blk i k b hk hb := by
    have hlt := closedB_lt hc
    obtain ⟨c, hcL, hkc⟩ := part_at' (fun b hb => by rw [hs.len]; exact hlt b hb) hk
    simp only [List.getElem?_map, hcL, Option.map_some, Option.some.injEq] at hb
    subst hb
    have hcm := hlt c (List.mem_of_getElem? hcL)
    have e1 : m.getD c .gone = m[c] := by simp [hcm]
    have hB := hs.blk c k _ hkc (List.getElem?_eq_getElem hcm)
    rw [e1]
    refine blkOK_ren (σ := σ) (σ' := σ.part L) rfl hB (fun d hd => ?_)
    have hdL := closedB_refs hc c (List.mem_of_getElem? hcL) d (by rw [e1]; exact hd)
    exact part_at hdL (by rw [hs.len]; exact hlt d hdL)
  inj i j a c r hij ha hc' hr := by
    have hlt := closedB_lt hc
    obtain ⟨x, hx, hax⟩ := part_at' (fun b hb => by rw [hs.len]; exact hlt b hb) ha
    obtain ⟨y, hy, hcy⟩ := part_at' (fun b hb => by rw [hs.len]; exact hlt b hb) hc'
    refine hs.inj x y a c r ?_ hax hcy hr
    rintro rfl
    exact hij (by rw [← get_idx hn hx, ← get_idx hn hy])
  Ic := hs.Ic
  Iv i rb n h o := by
    obtain ⟨x, hx, hax⟩ := part_at' (fun b hb => by rw [hs.len]; exact closedB_lt hc b hb) h
    exact hs.Iv x rb n hax o
  Ia i r K sz es h o v hv := by
    obtain ⟨x, hx, hax⟩ := part_at' (fun b hb => by rw [hs.len]; exact closedB_lt hc b hb) h
    exact hs.Ia x r K sz es hax o v hv
theorem part_owned {L : List Nat} {r : Nat} (hlt : ∀ b ∈ L, b < σ.B.length) (h : Owned (σ.part L) r) : Owned σ r ∧ ∃ b k, b ∈ L ∧ σ.B[b]? = some k ∧ k.rb? = some r := by
  obtain ⟨i, k, hk, hr⟩ := h
  obtain ⟨b, hb, hkb⟩ := part_at' hlt hk
  exact ⟨⟨b, k, hkb, hr⟩, b, k, List.mem_of_getElem? hb, hkb, hr⟩

/-- The caller's numbering, behind a call: its own blocks, then what is new and reached. -/
def Sig.join (σ σ1 : Sig) (L K : List Nat) : Sig where
  I := σ1.I
  B := ((List.range σ.B.length).map fun b => if L.contains b then σ1.B.getD (L.idxOf b) .gone else σ.B.getD b .gone) ++ K.map fun b => σ1.B.getD b .gone

theorem join_old {σ1 : Sig} {L K : List Nat} {b : Nat} (hl : b < σ.B.length) (hb : b ∉ L) : (σ.join σ1 L K).B[b]? = σ.B[b]? := by
  simp only [Sig.join]
  rw [List.getElem?_append_left (by simpa using hl)]
  simp [hl, hb]
theorem join_in {σ1 : Sig} {L K : List Nat} {b : Nat} (hl : b < σ.B.length) (hb : b ∈ L) (h1 : L.length ≤ σ1.B.length) : (σ.join σ1 L K).B[b]? = σ1.B[L.idxOf b]? := by
  have hi := List.idxOf_lt_length_of_mem hb
  simp only [Sig.join]
  rw [List.getElem?_append_left (by simpa using hl)]
  simp [hl, hb]
  have : L.idxOf b < σ1.B.length := by omega
  simp [this]
theorem join_new {σ1 : Sig} {L K : List Nat} {b : Nat} (hb : b ∈ K) (h1 : b < σ1.B.length) : (σ.join σ1 L K).B[σ.B.length + K.idxOf b]? = σ1.B[b]? := by
  simp only [Sig.join]
  rw [List.getElem?_append_right (by simp)]
  simp only [List.length_map, List.length_range, Nat.add_sub_cancel_left, List.getElem?_map, idx_get hb, Option.map_some]
  simp [h1]
/-- Where a block of the caller's numbering comes from. -/
theorem join_at {σ1 : Sig} {L K : List Nat} {i : Nat} {x : BK} (h1 : L.length ≤ σ1.B.length) (hK : ∀ b ∈ K, b < σ1.B.length) (h : (σ.join σ1 L K).B[i]? = some x) :
    (i < σ.B.length ∧ i ∉ L ∧ σ.B[i]? = some x) ∨ (i < σ.B.length ∧ i ∈ L ∧ σ1.B[L.idxOf i]? = some x) ∨ (∃ b, b ∈ K ∧ K[i - σ.B.length]? = some b ∧ σ.B.length ≤ i ∧ σ1.B[b]? = some x) := by
  rcases Nat.lt_or_ge i σ.B.length with hl | hl
  · by_cases hb : i ∈ L
    · rw [join_in hl hb h1] at h; exact .inr (.inl ⟨hl, hb, h⟩)
    · rw [join_old hl hb] at h; exact .inl ⟨hl, hb, h⟩
  · simp only [Sig.join] at h
    rw [List.getElem?_append_right (by simpa using hl)] at h
    simp only [List.length_map, List.length_range, List.getElem?_map] at h
    obtain ⟨b, hb, rfl⟩ := Option.map_eq_some_iff.1 h
    have := hK b (List.mem_of_getElem? hb)
    exact .inr (.inr ⟨b, List.mem_of_getElem? hb, hb, hl, by simp [this]⟩)
end
end Go.Gm
