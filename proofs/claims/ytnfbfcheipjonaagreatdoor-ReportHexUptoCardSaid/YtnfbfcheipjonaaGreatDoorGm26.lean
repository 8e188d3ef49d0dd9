/- The ghost machine, part 26: an operation of a drawn region at another moment. -/
import Derived.Test.YtnfbfcheipjonaaGreatDoorGm25
set_option linter.unusedSimpArgs false
set_option linter.unusedVariables false
namespace Go.Gm

structure Stat (A : Ann) (f : FuncId) (id : Nat) (ops : Array Oper) (ms : List Nat) : Prop where
  nod : ∀ (i : Nat) (o : Oper), ops[i]? = some o → isDefer o = false
  mask : ∀ (i : Nat) (o : Oper), ops[i]? = some o → ms.getD i 0 = maskOf ms o
  edge : ∀ (i : Nat) (o : Oper) (j : Nat), ops[i]? = some o → j ∈ edgesOf o → j < i
  dst : ∀ (i j : Nat) (d : Tmp), dstAt ops i = some d → dstAt ops j = some d → i = j
  look : ∀ (i : Nat) (o : Oper) (j : Nat) (t : Tmp), ops[i]? = some o → t ∈ o.looksAt ops → dstAt ops j = some t → (ms.getD i 0).testBit j = true ∨ (ms.getD j 0).testBit i = true
  eff : ∀ (i j : Nat), effO A f ops i = true → effO A f ops j = true → j < i → (ms.getD i 0).testBit j = true
  cov : ∀ (i : Nat) (o : Oper) (x : Nat), ops[i]? = some o → effO A f ops i = false → indepO A f o = false → x ≤ ops.size → (x = ops.size ∨ effO A f ops x = true) → condM A f ops ms x i = true → nextM A f ops x i = true ∨ x ∈ floOf A f id i

section
variable {A : Ann} {f : FuncId} {id : Nat} {ops : Array Oper} {ms : List Nat}

theorem dstAt_lt {j : Nat} {d : Tmp} (h : dstAt ops j = some d) : ∃ o, ops[j]? = some o ∧ o.dst = some d ∧ j < ops.size := by
  unfold dstAt at h
  cases ho : ops[j]? with
  | none => simp [ho] at h
  | some o => exact ⟨o, rfl, by simpa [ho] using h, (Array.getElem?_eq_some_iff.1 ho).1⟩
theorem effO_lt {j : Nat} (h : effO A f ops j = true) : ∃ o, ops[j]? = some o ∧ pureO A f o = false ∧ j < ops.size := by
  unfold effO at h
  split at h
  · rename_i o ho; exact ⟨o, ho, by simpa using h, (Array.getElem?_eq_some_iff.1 ho).1⟩
  · simp at h

theorem stat_of (h : statOK A f id ops = true) : Stat A f id ops (masksOf ops.toList []) := by
  unfold statOK at h
  simp only [List.all_eq_true, List.mem_range] at h
  generalize masksOf ops.toList [] = ms at h
  have h1 : ∀ (i : Nat) (o : Oper), ops[i]? = some o → oneOK A f id ops ms i o = true := by
    intro i o ho
    have := h i (Array.getElem?_eq_some_iff.1 ho).1
    simp only [ho, Bool.and_eq_true] at this
    exact this.2
  have h0 : ∀ (i : Nat) (o : Oper), ops[i]? = some o → isDefer o = false := by
    intro i o ho
    have := h i (Array.getElem?_eq_some_iff.1 ho).1
    simp only [ho, Bool.and_eq_true, Bool.not_eq_true'] at this
    exact this.1
  have hpair : ∀ (i : Nat) (o : Oper) (j : Nat) (q : Oper), ops[i]? = some o → ops[j]? = some q → pairOK A f ops ms i j o q = true := by
    intro i o j q ho hq
    have := h1 i o ho
    simp only [oneOK, Bool.and_eq_true, List.all_eq_true, List.mem_range] at this
    have := this.1.2 j (Array.getElem?_eq_some_iff.1 hq).1
    simpa only [hq] using this
  refine ⟨h0, fun i o ho => ?_, fun i o j ho hj => ?_, fun i j d hi hj => ?_, fun i o j t ho ht hj => ?_, fun i j hi hj hlt => ?_, fun i o x ho he hp hx hx' hc => ?_⟩
  · have := h1 i o ho
    simp only [oneOK, Bool.and_eq_true, beq_iff_eq] at this
    exact this.1.1.1
  · have := h1 i o ho
    simp only [oneOK, Bool.and_eq_true, List.all_eq_true, decide_eq_true_eq] at this
    exact this.1.1.2 j hj
  · obtain ⟨o, ho, hd, _⟩ := dstAt_lt hi
    obtain ⟨q, hq, hd', _⟩ := dstAt_lt hj
    have := hpair i o j q ho hq
    simp only [pairOK, hd', Bool.and_eq_true, Bool.or_eq_true, beq_iff_eq, bne_iff_ne, hd] at this
    rcases this.1.1 with h | h
    · exact h
    · exact absurd rfl h
  · obtain ⟨q, hq, hd', _⟩ := dstAt_lt hj
    have := hpair i o j q ho hq
    simp only [pairOK, hd', Bool.and_eq_true, Bool.or_eq_true, Bool.not_eq_true'] at this
    rcases this.1.2 with (h | h) | h
    · rw [List.contains_iff_mem.2 ht] at h; simp at h
    · exact .inl h
    · exact .inr h
  · obtain ⟨o, ho, _, _⟩ := effO_lt hi
    obtain ⟨q, hq, _, _⟩ := effO_lt hj
    have := hpair i o j q ho hq
    simp only [pairOK, Bool.and_eq_true, Bool.or_eq_true, hi, hj, hlt, decide_true, Bool.and_self, Bool.not_true, Bool.false_eq_true, false_or] at this
    exact this.2
  · have := h1 i o ho
    simp only [oneOK, Bool.and_eq_true, Bool.or_eq_true, he, hp, Bool.false_eq_true, false_or, List.all_eq_true, List.mem_range] at this
    have := this.2 x (by omega)
    simp only [Bool.or_eq_true, Bool.not_eq_true', List.contains_iff_mem] at this
    rcases this with ((h | h) | h) | h
    · simp only [Bool.or_eq_false_iff, beq_eq_false_iff_ne] at h
      rcases hx' with h' | h'
      · exact absurd h' h.1
      · rw [h'] at h; simp at h
    · rw [hc] at h; simp at h
    · exact .inl h
    · exact .inr h

theorem mask_sub {o : Oper} {b : Nat} (h : (maskOf ms o).testBit b = true) : b ∈ edgesOf o ∨ ∃ j ∈ edgesOf o, (ms.getD j 0).testBit b = true := by
  unfold maskOf at h
  have key : ∀ (l : List Nat) (acc : Nat), (l.foldl (fun acc j => acc ||| (2 ^ j ||| ms.getD j 0)) acc).testBit b = true → acc.testBit b = true ∨ b ∈ l ∨ ∃ j ∈ l, (ms.getD j 0).testBit b = true := by
    intro l
    induction l with
    | nil => intro acc h; exact .inl h
    | cons j l ih =>
      intro acc h
      simp only [List.foldl_cons] at h
      rcases ih _ h with h | h | ⟨k, hk, h⟩
      · simp only [Nat.testBit_or, Bool.or_eq_true, Nat.testBit_two_pow, decide_eq_true_eq] at h
        rcases h with h | h | h
        · exact .inl h
        · exact .inr (.inl (by rw [h]; exact List.mem_cons_self))
        · exact .inr (.inr ⟨j, List.mem_cons_self, h⟩)
      · exact .inr (.inl (List.mem_cons_of_mem _ h))
      · exact .inr (.inr ⟨k, List.mem_cons_of_mem _ hk, h⟩)
  rcases key _ _ h with h | h
  · simp at h
  · exact h

variable (Z : Stat A f id ops ms)
include Z
theorem Stat.lt {i b : Nat} {o : Oper} (ho : ops[i]? = some o) (h : (ms.getD i 0).testBit b = true) : b < i := by
  induction i using Nat.strongRecOn generalizing o with
  | _ i ih =>
    rw [Z.mask i o ho] at h
    rcases mask_sub h with h | ⟨j, hj, h⟩
    · exact Z.edge i o b ho h
    · have hji := Z.edge i o j ho hj
      have hlt : j < ops.size := by have := (Array.getElem?_eq_some_iff.1 ho).1; omega
      have := ih j hji (Array.getElem?_eq_getElem hlt) h
      omega

/-- What has been drawn so far is closed. -/
def ClosedS (ops : Array Oper) (ms : List Nat) (S : Nat → Bool) : Prop := ∀ (i : Nat), i < ops.size → S i = true → ∀ b, (ms.getD i 0).testBit b = true → S b = true
theorem Stat.before {S : Nat → Bool} (hS : ClosedS ops ms S) {i : Nat} {o : Oper} (ho : ops[i]? = some o) (hr : ∀ j ∈ edgesOf o, S j = true) : ∀ b, (ms.getD i 0).testBit b = true → S b = true := by
  intro b h
  rw [Z.mask i o ho] at h
  rcases mask_sub h with h | ⟨j, hj, h⟩
  · exact hr b h
  · have := Z.edge i o j ho hj
    exact hS j (by have := (Array.getElem?_eq_some_iff.1 ho).1; omega) (hr j hj) b h
theorem Stat.closed {S : Nat → Bool} (hS : ClosedS ops ms S) {i : Nat} {o : Oper} (ho : ops[i]? = some o) (hr : ∀ j ∈ edgesOf o, S j = true) : ClosedS ops ms fun j => S j || j == i := by
  intro k hk hks b hb
  simp only [Bool.or_eq_true, beq_iff_eq] at hks ⊢
  rcases hks with h | rfl
  · exact .inl (hS k hk h b hb)
  · exact .inl (Z.before hS ho hr b hb)
end

theorem mixR_len {ops : Array Oper} {S : Nat → Bool} {r0 rn : List PV} : (mixR ops S r0 rn).length = r0.length := by simp [mixR]
open Classical in
theorem mixR_get {ops : Array Oper} {S : Nat → Bool} {r0 rn : List PV} {t : Nat} (h : t < r0.length) :
    get (mixR ops S r0 rn) t = if ∃ j, S j = true ∧ dstAt ops j = some t then get rn t else get r0 t := by
  have hx : (List.range ops.size).any (fun j => S j && dstAt ops j == some t) = true ↔ ∃ j, S j = true ∧ dstAt ops j = some t := by
    simp only [List.any_eq_true, List.mem_range, Bool.and_eq_true, beq_iff_eq]
    constructor
    · rintro ⟨j, _, h1, h2⟩; exact ⟨j, h1, h2⟩
    · rintro ⟨j, h1, h2⟩
      obtain ⟨_, _, _, hl⟩ := dstAt_lt h2
      exact ⟨j, hl, h1, h2⟩
  rw [get_getD]
  simp only [mixR, List.getD_eq_getElem?_getD, List.getElem?_map, List.getElem?_range h, Option.map_some, Option.getD_some]
  by_cases hc : ∃ j, S j = true ∧ dstAt ops j = some t
  · rw [if_pos hc, if_pos (hx.2 hc)]
  · rw [if_neg hc, if_neg (fun e => hc (hx.1 e))]
theorem get_out {r : List PV} {t : Nat} (h : r.length ≤ t) : get r t = .dead := by
  rw [get_getD]; simp [h]
end Go.Gm
