/- The ghost machine, part 4: what the model's own words for loading, storing, making and appending do, against ghost memory. -/
import Derived.Test.YtnfbfcheipjonaaGreatDoorGm3
set_option linter.unusedSimpArgs false
set_option linter.unusedVariables false
namespace Go.Gm
variable {P : Program}

theorem ti_spec {t : TypeId} {i : TI} (h : ti P t = some i) : ∃ inf d z, P.info? t = some inf ∧ P.underlying t = some d ∧ i.kind = tk P d ∧ i.size = inf.size ∧ i.bytes = inf.bytes ∧ i.agg = aggB d ∧
    inf.zero = some z ∧ i.zero = z.cells.toList.map ofV1 := by
  unfold ti at h
  split at h
  · rename_i inf d h1 h2
    split at h
    · rename_i z hz
      obtain rfl := Option.some.inj h
      exact ⟨inf, d, z, h1, h2, rfl, rfl, rfl, rfl, hz, rfl⟩
    · exact absurd h (by simp)
  · exact absurd h (by simp)
theorem run_ti {t : TypeId} {inf : TypeInfo} (h : P.info? t = some inf) (w : World) : (typeInfo t).run P w = .ok inf w := by
  simp [typeInfo, h, pure, Sem.run]
theorem run_sz {t : TypeId} {inf : TypeInfo} (h : P.info? t = some inf) (w : World) : (sizeOf t).run P w = .ok inf.size w := by
  simp [sizeOf, run_ti h, pure, Sem.run]
theorem run_ag {t : TypeId} {d : TypeDesc} (h : P.underlying t = some d) (w : World) : (isAgg t).run P w = .ok (aggB d) w := by
  simp only [isAgg, Sem.run_bind, run_underlying h, Result.andThen_ok]
  cases d <;> simp [aggB, pure, Sem.run]

theorem addr_add (b o j : Nat) : (⟨b, o, none⟩ : Addr).add j = ⟨b, o + j, none⟩ := by
  unfold Addr.add; split <;> simp_all
theorem cell_of_heap {w : World} {b o : Nat} {c : Array Value} {t : TypeId} {fr : Nat × Nat} (h : w.heap[b]? = some (.cells c t fr)) : w.cell? ⟨b, o, none⟩ = c[o]? := by
  simp [World.cell?, h]

/-- Cells that lie one behind the other, and are related to ghost cells. -/
def Lies (σ : Sig) (w : World) (rb q : Nat) (cs : List PV) : Prop := ∀ (j : Nat) (p : PV), cs[j]? = some p → ∃ v, w.cell? ⟨rb, q + j, none⟩ = some v ∧ VR σ p v

theorem Lies.values {σ : Sig} {w : World} {rb q : Nat} {cs : List PV} (h : Lies σ w rb q cs) (o n : Nat) (hn : o + n ≤ cs.length) :
    ∃ vs : List Value, vs.length = n ∧ (∀ (j : Nat) (v : Value), vs[j]? = some v → w.cell? ⟨rb, q + o + j, none⟩ = some v) ∧ ∀ (j : Nat) (p : PV) (v : Value), ((cs.drop o).take n)[j]? = some p → vs[j]? = some v → VR σ p v := by
  refine ⟨(List.range n).map fun j => (w.cell? ⟨rb, q + o + j, none⟩).getD undef, by simp, fun j v hv => ?_, fun j p v hp hv => ?_⟩
  · rw [List.getElem?_map] at hv
    obtain ⟨k, hk, rfl⟩ := Option.map_eq_some_iff.1 hv
    obtain ⟨hj, rfl⟩ := List.getElem?_eq_some_iff.1 hk
    simp at hj
    obtain ⟨v, hv, _⟩ := h (o + j) cs[o + j] (List.getElem?_eq_getElem (by omega))
    rw [← Nat.add_assoc] at hv
    simp [hv]
  · rw [List.getElem?_map] at hv
    obtain ⟨k, hk, rfl⟩ := Option.map_eq_some_iff.1 hv
    obtain ⟨hj, rfl⟩ := List.getElem?_eq_some_iff.1 hk
    simp at hj
    rw [List.getElem?_take_of_lt hj, List.getElem?_drop] at hp
    obtain ⟨v, hv, hvr⟩ := h (o + j) p hp
    rw [← Nat.add_assoc] at hv
    simpa [hv] using hvr

theorem run_loadVar {σ : Sig} {w : World} {t : TypeId} {i : TI} (hi : ti P t = some i) {rb q : Nat} {cs : List PV} (h : Lies σ w rb q cs) {o : Nat} {p : PV} (hp : rd i cs o = some p) :
    ∃ v, (loadVar t ⟨rb, q + o, none⟩).run P w = .ok v w ∧ VR σ p v := by
  obtain ⟨inf, d, z, h1, h2, _, h4, _, h6, _⟩ := ti_spec hi
  unfold rd at hp
  simp only [loadVar, Sem.run_bind, run_ag h2, Result.andThen_ok]
  rw [h6] at hp
  cases hd : aggB d
  · rw [hd] at hp
    simp only [Bool.false_eq_true, if_false] at hp ⊢
    obtain ⟨v, hv, hvr⟩ := h o p hp
    exact ⟨v, by simp [hv], hvr⟩
  · rw [hd] at hp
    simp only [if_true] at hp ⊢
    split at hp
    · rename_i hlen
      obtain rfl := Option.some.inj hp
      obtain ⟨vs, hl, hc, hr⟩ := h.values o i.size hlen
      have e := run_loadCells_list (P := P) w ⟨rb, q + o, none⟩ vs (fun j v hv => by rw [addr_add]; exact hc j v hv)
      refine ⟨.agg vs.toArray, ?_, .agg (by simp; omega) (fun j p v a b => hr j p v a (by simpa using b))⟩
      simp only [Sem.run_bind, run_sz h1, Result.andThen_ok, ← h4, ← hl, e]
      simp [pure, Sem.run]
    · exact absurd hp (by simp)

theorem lies_var {σ : Sig} {m : Mem} {w : World} (h : Sim σ m w) {b rb n : Nat} (hb : σ.B[b]? = some (.var rb n)) {cs : List PV} {t : VT} (hm : m[b]? = some (.var t cs)) : Lies σ w rb 0 cs := by
  obtain ⟨c, h1, h2, ⟨h3, _⟩, h4⟩ := h.blk b _ _ hb hm
  intro j p hp
  have hj := (List.getElem?_eq_some_iff.1 hp).1
  rw [Nat.zero_add, cell_of_heap h1]
  have hjc : j < c.size := by omega
  exact ⟨c[j], by simp [hjc], h4 j p _ hp (by simp [hjc])⟩
theorem lies_imm {σ : Sig} {m : Mem} {w : World} (h : Sim σ m w) {rb q : Nat} {cs : List PV} (g : Nat → Value) (h1 : ∀ (j : Nat) (p : PV), cs[j]? = some p → σ.I rb (q + j) = some (g j))
    (h2 : ∀ (j : Nat) (p : PV), cs[j]? = some p → VR σ p (g j)) : Lies σ w rb q cs := by
  intro j p hp
  obtain ⟨c, et, fr, hc, hv⟩ := h.Ic _ _ _ (h1 j p hp)
  exact ⟨g j, by rw [cell_of_heap hc]; exact hv, h2 j p hp⟩

/-- Storing into a row. -/
theorem run_storeRow (g o : Nat) (t : TypeId) (fr : Nat × Nat) : ∀ (vs : List Value) (i : Nat) (cur : Array Value) (w : World), w.heap[g]? = some (.cells cur t fr) → fr.2 ≤ o + i → o + i + vs.length ≤ cur.size → (∀ v ∈ vs, v.oneCell' = true) →
    (storeCells ⟨g, o, none⟩ vs i).run P w = .ok () (w.setRow g (cur.toList.take (o + i) ++ vs ++ cur.toList.drop (o + i + vs.length)).toArray)
  | [], i, cur, w, hg, _, _, _ => by
    simp only [storeCells, List.append_nil, List.length_nil, Nat.add_zero, List.take_append_drop, Array.toArray_toList]
    rw [setRow_self w g cur t fr hg]
    rfl
  | v :: rest, i, cur, w, hg, hf, hl, h1 => by
    have hi : o + i < cur.size := by simp at hl; omega
    have hadd : (⟨g, o, none⟩ : Addr).add i = ⟨g, o + i, none⟩ := by unfold Addr.add; split <;> simp_all
    have hcell : w.cell? ⟨g, o + i, none⟩ = some cur[o + i] := by simp [World.cell?, hg, hi]
    have hfro : w.frozen? ⟨g, o + i, none⟩ = false := by
      obtain ⟨lo, hi'⟩ := fr
      simp only [World.frozen?, hg]
      simp at hf
      simp; omega
    have hst : (store ((⟨g, o, none⟩ : Addr).add i) v).run P w = .ok () (w.setRow g (cur.setIfInBounds (o + i) v)) := by
      rw [hadd, run_store P w _ v _ (h1 v (by simp)), hcell]
      simp [hfro, setCell_eq_setRow w g (o + i) cur t fr v hg]
    have ih := run_storeRow g o t fr rest (i + 1) (cur.setIfInBounds (o + i) v) (w.setRow g (cur.setIfInBounds (o + i) v)) (setRow_heap w g cur _ t _ hg) (by omega) (by simp at hl ⊢; omega) (fun x hx => h1 x (by simp [hx]))
    simp only [storeCells, Sem.run_bind, hst, Result.andThen_ok, ih, setRow_setRow]
    congr 3
    have e := list_seg_step cur.toList (o + i) v rest (by simp at hl ⊢; omega)
    simpa [Array.toList_setIfInBounds, Nat.add_assoc] using e

theorem setRow_other {w : World} {g r : Nat} {c : Array Value} (h : r ≠ g) : (w.setRow g c).heap[r]? = w.heap[r]? := by
  simp only [World.setRow]
  rw [Array.getElem?_modify]
  simp [show ¬ g = r from fun e => h e.symm]
theorem setRow_size {w : World} {g : Nat} {c : Array Value} : (w.setRow g c).heap.size = w.heap.size := by simp [World.setRow]

/-- The cells of a value. -/
theorem VR.cells {σ : Sig} {p : PV} {v : Value} (h : VR σ p v) (h1 : p.cells.all PV.one = true) (hg : ∀ b ∈ refs p, σ.B[b]? ≠ some .gone) :
    p.cells.length = v.cells.size ∧ (∀ (j : Nat) (q : PV) (u : Value), p.cells[j]? = some q → v.cells[j]? = some u → VR σ q u) ∧ ∀ u ∈ v.cells.toList, u.oneCell' = true := by
  have plain : ∀ {p : PV} {v : Value}, VR σ p v → p.cells = [p] → v.cells = #[v] → v.oneCell' = true → p.cells.length = v.cells.size ∧ (∀ (j : Nat) (q : PV) (u : Value), p.cells[j]? = some q → v.cells[j]? = some u → VR σ q u) ∧ ∀ u ∈ v.cells.toList, u.oneCell' = true := by
    intro p v h a b c
    rw [a, b]
    refine ⟨rfl, fun j q u x y => ?_, by simpa using c⟩
    match j with
    | 0 => simp at x y; subst x; subst y; exact h
    | j + 1 => simp at x
  cases h with
  | agg hl hr =>
    rename_i cs vs
    refine ⟨by simpa [PV.cells, Value.cells] using hl, fun j q u a b => hr j q u (by simpa [PV.cells] using a) (by simpa [Value.cells] using b), fun u hu => ?_⟩
    simp only [Value.cells] at hu
    obtain ⟨j, hj, rfl⟩ := List.mem_iff_getElem.1 hu
    simp at hj
    have hjc : j < cs.length := by omega
    have := hr j cs[j] vs[j] (by simp [hjc]) (by simp [hj])
    simp only [PV.cells, List.all_eq_true] at h1
    have hx := this.one (h1 _ (List.getElem_mem hjc)) (fun b hb => hg b (by
      simp only [refs]
      refine mem_refsL (j := j) (p := cs[j]) (by simp [hjc]) ?_
      revert hb; generalize cs[j] = q; cases q <;> simp [refs1, refs]))
    simpa using hx
  | tup => simp [PV.cells, PV.one] at h1
  | dead => simp [PV.cells, PV.one] at h1
  | ptrG e => exact absurd e (hg _ (by simp [refs]))
  | refG e => exact absurd e (hg _ (by simp [refs]))
  | bool b => exact plain (.bool b) rfl rfl rfl
  | int k n => exact plain (.int k n) rfl rfl rfl
  | str s => exact plain (.str s) rfl rfl rfl
  | nilp => exact plain .nilp rfl rfl rfl
  | ptr e => exact plain (.ptr e) rfl rfl rfl
  | iptr g a b c => exact plain (.iptr g a b c) rfl rfl rfl
  | nils => exact plain .nils rfl rfl rfl
  | sl g a b c d e f => exact plain (.sl g a b c d e f) rfl rfl rfl
  | sl0 a => exact plain (.sl0 a) rfl rfl rfl
  | acc g a b c d e f i j => exact plain (.acc g a b c d e f i j) rfl rfl rfl
  | ref a b c => exact plain (.ref a b c) rfl rfl rfl
  | nilm => exact plain .nilm rfl rfl rfl
  | accp a b c => obtain ⟨q, rfl⟩ := c; exact plain (.accp a b ⟨_, rfl⟩) rfl rfl rfl
  | map e => exact plain (.map e) rfl rfl rfl
  | fn a b c d => exact plain (.fn a b c d) rfl rfl rfl
  | nilfn => exact plain .nilfn rfl rfl rfl
  | iface a => exact plain (.iface a) rfl rfl rfl
  | nili => exact plain .nili rfl rfl rfl

/-- A constant. -/
theorem VR.ofV1 {σ : Sig} (v : Value) : VR σ (ofV1 v) v := by
  unfold Gm.ofV1
  split <;> first | exact .bool _ | exact .int _ _ | exact .str _ | exact .nilp | exact .nils | exact .nilm | exact .nilfn | exact .nili | exact .dead
theorem VR.ofV {σ : Sig} (v : Value) : VR σ (ofV v) v := by
  unfold Gm.ofV
  split
  · rename_i cs
    refine .agg (by simp) (fun j p u a b => ?_)
    rw [List.getElem?_map] at a
    obtain ⟨x, hx, rfl⟩ := Option.map_eq_some_iff.1 a
    simp at hx
    rw [hx] at b
    obtain rfl := Option.some.inj b
    exact VR.ofV1 _
  · exact VR.ofV1 _

end Go.Gm
