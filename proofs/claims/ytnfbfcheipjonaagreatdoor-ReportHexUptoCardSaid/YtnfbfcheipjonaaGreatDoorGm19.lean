/- The ghost machine, part 19: a function's own slices are frozen as it returns. -/
import Derived.Test.YtnfbfcheipjonaaGreatDoorGm18
set_option linter.unusedSimpArgs false
set_option linter.unusedVariables false
namespace Go.Gm
section
variable {σ : Sig} {m : Mem} {w : World}

def kil (k : Nat) (R : List Nat) (b : Nat) : Bool := k ≤ b && R.contains b
def BK.dies : BK → BK
  | .var _ _ => .gone
  | x => x
def Blk.dies : Blk → Blk
  | .var _ _ => .gone
  | x => x
/-- The block's real cells. -/
def heapAt (w : World) (r o : Nat) : Option Value :=
  match w.heap[r]? with
  | some (.cells c _ _) => c[o]?
  | _ => none
def kilR (σ : Sig) (k : Nat) (R : List Nat) (r : Nat) : Prop := ∃ (b n : Nat), kil k R b = true ∧ σ.B[b]? = some (.var r n)
open Classical in
noncomputable def Sig.frz (σ : Sig) (w : World) (k : Nat) (R : List Nat) : Sig where
  I r o := match σ.I r o with
    | some v => some v
    | none => if kilR σ k R r then heapAt w r o else none
  B := (List.range σ.B.length).map fun b => if kil k R b then (σ.B.getD b .gone).dies else σ.B.getD b .gone

theorem frz_B {k : Nat} {R : List Nat} {b : Nat} {x : BK} (h : σ.B[b]? = some x) : (σ.frz w k R).B[b]? = some (if kil k R b then x.dies else x) := by
  have hb := (List.getElem?_eq_some_iff.1 h)
  obtain ⟨hl, hx⟩ := hb
  simp [Sig.frz, hl, hx]
theorem frz_B' {k : Nat} {R : List Nat} {b : Nat} {x : BK} (h : (σ.frz w k R).B[b]? = some x) : ∃ y, σ.B[b]? = some y ∧ x = if kil k R b then y.dies else y := by
  have hl : b < σ.B.length := by have := (List.getElem?_eq_some_iff.1 h).1; simpa [Sig.frz] using this
  refine ⟨σ.B[b], List.getElem?_eq_getElem hl, ?_⟩
  rw [frz_B (List.getElem?_eq_getElem hl)] at h
  exact (Option.some.inj h).symm
theorem dies_rb {x : BK} {r : Nat} (h : x.dies.rb? = some r) : x.rb? = some r := by cases x <;> simp_all [BK.dies, BK.rb?]
theorem dies_le (x : BK) : x.le x.dies := by cases x <;> simp [BK.dies, BK.le]
theorem frz_I {k : Nat} {R : List Nat} {r o : Nat} {v : Value} (h : (σ.frz w k R).I r o = some v) : σ.I r o = some v ∨ (kilR σ k R r ∧ heapAt w r o = some v) := by
  simp only [Sig.frz] at h
  split at h
  · rename_i u hu; obtain rfl := Option.some.inj h; exact .inl hu
  · split at h
    · rename_i hk; exact .inr ⟨hk, h⟩
    · simp at h
theorem frz_owned {k : Nat} {R : List Nat} {r : Nat} (h : Owned (σ.frz w k R) r) : Owned σ r := by
  obtain ⟨i, x, hx, hr⟩ := h
  obtain ⟨y, hy, rfl⟩ := frz_B' hx
  refine ⟨i, y, hy, ?_⟩
  split at hr
  · exact dies_rb hr
  · exact hr

theorem Ext.frz (hs : Sim σ m w) (k : Nat) (R : List Nat) : Ext σ w (σ.frz w k R) where
  I r o v h := by simp only [Sig.frz, h]
  B i x h := by
    refine ⟨_, frz_B h, ?_⟩
    split
    · exact dies_le x
    · exact x.le_refl
  own r h _ := frz_owned h
  new r o v h _ := by
    rcases frz_I h with h | ⟨⟨b, n, _, hb⟩, _⟩
    · exact .inl h
    · exact .inr ⟨b, _, hb, rfl⟩

def killedR (k : Nat) (R : List Nat) (m : Mem) : Mem := (List.range m.length).map fun b => if kil k R b then (m.getD b .gone).dies else m.getD b .gone
theorem killed_eq (k : Nat) (m : Mem) (old : PV) : killed k m old = killedR k (refs old) m := by
  unfold killed killedR
  refine List.map_congr_left fun b _ => ?_
  unfold kil
  split
  · cases m.getD b .gone <;> rfl
  · rfl

theorem Sim.frz (hs : Sim σ m w) (k : Nat) (R : List Nat) : Sim (σ.frz w k R) (killedR k R m) w where
  len := by simp [Sig.frz, killedR, hs.len]
  blk i x b hx hb := by
    obtain ⟨y, hy, rfl⟩ := frz_B' hx
    have hl : i < m.length := by rw [← hs.len]; exact (List.getElem?_eq_some_iff.1 hy).1
    have hB := hs.blk i y m[i] hy (List.getElem?_eq_getElem hl)
    have hb' : b = if kil k R i then (m[i]).dies else m[i] := by
      simp [killedR, hl] at hb
      exact hb.symm
    subst hb'
    have hB' := hB.mono (Ext.frz hs k R) (fun _ _ => rfl)
    split
    · cases y <;> cases hm : m[i] <;> rw [hm] at hB hB' <;> simp only [BK.dies, Blk.dies] <;> first | exact hB' | exact hB.elim | trivial
    · exact hB'
  inj i j a c r hij ha hc hr := by
    obtain ⟨y, hy, rfl⟩ := frz_B' ha
    obtain ⟨z, hz, rfl⟩ := frz_B' hc
    have h1 : y.rb? = some r := by split at hr; exact dies_rb hr; exact hr
    intro hr'
    have h2 : z.rb? = some r := by split at hr'; exact dies_rb hr'; exact hr'
    exact hs.inj i j y z r hij hy hz h1 h2
  Ic r o v h := by
    rcases frz_I h with h | ⟨_, h⟩
    · exact hs.Ic r o v h
    · unfold heapAt at h
      split at h
      · rename_i c et fr hh; exact ⟨c, et, fr, hh, h⟩
      · simp at h
  Iv i rb n h o := by
    obtain ⟨y, hy, he⟩ := frz_B' h
    cases hI : (σ.frz w k R).I rb o with
    | none => rfl
    | some v =>
      exfalso
      split at he
      · cases y <;> simp [BK.dies] at he
      · rename_i hk
        subst he
        rcases frz_I hI with h | ⟨⟨b, n', hb, hbb⟩, _⟩
        · rw [hs.Iv i rb n hy o] at h; simp at h
        · by_cases e : i = b
          · subst e; exact hk hb
          · exact hs.inj i b _ _ rb e hy hbb rfl rfl
  Ia i r K sz es h o v hv := by
    obtain ⟨y, hy, he⟩ := frz_B' h
    have hy' : σ.B[i]? = some (.acc (some r) K sz es) := by
      split at he
      · cases y <;> simp [BK.dies] at he; rw [hy, he.1, he.2.1, he.2.2.1, he.2.2.2]
      · rw [hy, he]
    rcases frz_I hv with h | ⟨⟨b, n', hb, hbb⟩, _⟩
    · exact hs.Ia i r K sz es hy' o v h
    · by_cases e : i = b
      · subst e; rw [hy'] at hbb; simp at hbb
      · exact absurd rfl (hs.inj i b _ _ r e hy' hbb rfl)

/-- One cell that is handed back. -/
theorem frz1_ok (hs : Sim σ m w) {k : Nat} {R : List Nat} {p p' : PV} {v : Value} (hp : VR σ p v) (hR : ∀ b, b ∈ refs1 p → b ∈ R) (h : frz1 m k p = some p') : VR (σ.frz w k R) p' v := by
  have he := Ext.frz (w := w) hs k R
  unfold frz1 at h
  split at h
  · rename_i b n
    split at h
    · obtain rfl := Option.some.inj h; exact hp.mono he
    · exact ((pur1_sound hs h).2.2 v hp).mono he
  · rename_i b sz o n
    split at h
    · obtain rfl := Option.some.inj h; exact hp.mono he
    · rename_i hk
      split at h
      · rename_i es hes
        obtain ⟨ys, hys, rfl⟩ := Option.map_eq_some_iff.1 h
        cases hp with
        | refG e =>
          simp only [elems] at hes
          split at hes
          · rename_i cs hm
            have := hs.blk _ _ _ e hm
            simp [blkOK] at this
          · simp at hes
        | ref e h1 h2 =>
          rename_i c rb mm
          simp only [elems] at hes
          split at hes
          · rename_i cs hm
            split at hes
            · rename_i hle
              obtain rfl := Option.some.inj hes
              have hB := hs.blk _ _ _ e hm
              obtain ⟨hc, hh, hz, hcl, hv⟩ := hB
              have hkil : kil k R b = true := by
                have := hR b (by simp [refs1])
                simp only [kil, Bool.and_eq_true, decide_eq_true_eq, List.contains_iff_mem]
                exact ⟨by omega, this⟩
              have hIat : ∀ x u, hc[x]? = some u → (σ.frz w k R).I rb x = some u := by
                intro x u hu
                simp only [Sig.frz, hs.Iv b rb mm e x]
                rw [if_pos ⟨b, mm, hkil, e⟩]
                simp [heapAt, hh, hu]
              -- the pure elements
              have hlen : ys.length = n := by rw [mapM_some_length hys, chunks_length]
              have hget : ∀ (i : Nat) (d : List PV) (j : Nat) (q : PV), ys[i]? = some d → d[j]? = some q → ∃ p u, cs[o * sz + i * sz + j]? = some p ∧ pur1 m p = some q ∧ hc[o * sz + i * sz + j]? = some u ∧ VR σ p u := by
                intro i d j q hd hq
                have hi : i < n := by rw [← hlen]; exact (List.getElem?_eq_some_iff.1 hd).1
                have hch : (chunks sz (cs.drop (o * sz)) n)[i]? = some (((cs.drop (o * sz)).drop (i * sz)).take sz) := chunks_get sz n _ i hi
                have hpm := mapM_some_get hys i _ hch
                rw [hd] at hpm
                obtain ⟨p, hp, hpq⟩ := (pur_sound hs hpm).2 j q hq
                obtain ⟨_, _, hpc⟩ := chunks_cell hch hp
                rw [List.getElem?_drop] at hpc
                have hlt : o * sz + i * sz + j < cs.length := by
                  have := (List.getElem?_eq_some_iff.1 hpc).1; omega
                rw [← Nat.add_assoc] at hpc
                have hu := Array.getElem?_eq_getElem (xs := hc) (i := o * sz + i * sz + j) (by omega)
                exact ⟨p, _, hpc, hpq, hu, hv _ _ _ hpc hu⟩
              have hsz : ∀ (i : Nat) (d : List PV), ys[i]? = some d → d.length = sz := by
                intro i d hd
                have hi : i < n := by rw [← hlen]; exact (List.getElem?_eq_some_iff.1 hd).1
                have hch : (chunks sz (cs.drop (o * sz)) n)[i]? = some (((cs.drop (o * sz)).drop (i * sz)).take sz) := chunks_get sz n _ i hi
                have hpm := mapM_some_get hys i _ hch
                rw [hd] at hpm
                rw [(pur_sound hs hpm).1]
                exact chunks_size (by simp; rw [Nat.add_mul] at hle; omega) (List.mem_of_getElem? hch)
              have := VR.sl (σ := σ.frz w k R) (full := false) (sz := sz) (es := ys) (rb := rb) (q := o * sz) (c := c) (fun i j => hc.getD (o * sz + i * sz + j) undef) hsz
                (fun i d j q hd hq => by
                  obtain ⟨p, u, _, _, hu, _⟩ := hget i d j q hd hq
                  rw [hIat _ u hu]; simp [hu])
                (fun i d j q hd hq => by
                  obtain ⟨p, u, _, hpq, hu, _⟩ := hget i d j q hd hq
                  exact (pur1_sound hs hpq).1)
                (fun i d j q hd hq => by
                  obtain ⟨p, u, _, hpq, hu, hvr⟩ := hget i d j q hd hq
                  have : hc.getD (o * sz + i * sz + j) undef = u := by simp [hu]
                  simp only [this]
                  exact ((pur1_sound hs hpq).2.2 u hvr).mono he)
                (by omega) (by simp)
              rwa [hlen] at this
            · simp at hes
          · simp at hes
      · simp at h
  · obtain rfl := Option.some.inj h; exact hp.mono he

theorem refs1_in {p : PV} {b : Nat} (h : b ∈ refs1 p) : b ∈ refs p := by
  cases p <;> simp_all [refs1, refs]
theorem mapM_row {f : PV → Option PV} {σ' : Sig} {cs ds : List PV} {vs : Array Value} (hr : Row σ cs vs) (h : cs.mapM f = some ds) (hf : ∀ p ∈ cs, ∀ p' v, VR σ p v → f p = some p' → VR σ' p' v) : Row σ' ds vs := by
  refine ⟨by rw [mapM_some_length h]; exact hr.1, fun j q v hq hv => ?_⟩
  have hj : j < cs.length := by rw [← mapM_some_length h]; exact (List.getElem?_eq_some_iff.1 hq).1
  have hc := List.getElem?_eq_getElem hj
  have := mapM_some_get h j _ hc
  rw [hq] at this
  exact hf _ (List.getElem_mem hj) q v (hr.2 j _ v hc hv) this

theorem frzL_ok (hs : Sim σ m w) {k : Nat} {R : List Nat} {cs ds : List PV} {vs : Array Value} (hr : Row σ cs vs) (hR : ∀ b, b ∈ refsL cs → b ∈ R) (h : cs.mapM (frz1 m k) = some ds) : Row (σ.frz w k R) ds vs :=
  mapM_row hr h fun p hp p' v hv e => frz1_ok hs hv (fun b hb => hR b (by rw [refsL_flat, List.mem_flatMap]; exact ⟨p, hp, refs1_in hb⟩)) e

theorem frz_ok (hs : Sim σ m w) {k : Nat} {p p' : PV} {v : Value} (hp : VR σ p v) (h : Gm.frz m k p = some p') : VR (σ.frz w k (refs p)) p' v := by
  unfold Gm.frz at h
  split at h
  · rename_i cs
    obtain ⟨ds, hd, rfl⟩ := Option.map_eq_some_iff.1 h
    cases hp with
    | agg h1 h2 =>
      have := frzL_ok hs (R := refs (.agg cs)) ⟨h1, h2⟩ (fun b hb => by simpa [refs] using hb) hd
      exact .agg this.1 this.2
  · rename_i vs
    obtain ⟨ds, hd, rfl⟩ := Option.map_eq_some_iff.1 h
    cases hp with
    | tup h1 h2 =>
      have : Row (σ.frz w k (refs (.tup vs))) ds _ := mapM_row ⟨h1, h2⟩ hd (fun p hp p' v hv e => by
        have hR : ∀ b, b ∈ refs p → b ∈ refs (.tup vs) := fun b hb => by simp only [refs]; rw [refsL_flat, List.mem_flatMap]; exact ⟨p, hp, hb⟩
        split at e
        · rename_i cs
          obtain ⟨ds, hd, rfl⟩ := Option.map_eq_some_iff.1 e
          cases hv with
          | agg h1 h2 =>
            have := frzL_ok hs (R := refs (.tup vs)) ⟨h1, h2⟩ (fun b hb => hR b (by simpa [refs] using hb)) hd
            exact .agg this.1 this.2
        · exact frz1_ok hs hv (fun b hb => hR b (refs1_in hb)) e)
      exact .tup this.1 this.2
  · exact frz1_ok hs hp (fun b hb => refs1_in hb) h
end
end Go.Gm
