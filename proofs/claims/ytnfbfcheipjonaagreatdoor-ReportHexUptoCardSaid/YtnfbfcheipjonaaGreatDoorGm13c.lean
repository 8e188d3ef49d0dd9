/- The ghost machine, part 13c: a string that shares an append-only block's bytes. -/
import Derived.Test.YtnfbfcheipjonaaGreatDoorGm13b
set_option linter.unusedSimpArgs false
set_option linter.unusedVariables false
namespace Go.Gm
variable {P : Program}
section
variable {σ : Sig} {m : Mem} {w : World}

theorem slicedata_sound (hs : Sim σ m w) {x p : PV} {vx : Value} (hx : VR σ x vx) {ts : Array TypeId} {ty : TypeId} (h : (x = .nils ∧ p = .nilp) ∨ ∃ b n, x = .acc b n ∧ n ≠ 0 ∧ p = .accp b n) :
    ∃ v, (Builtin.unsafeSliceData_ ts ty #[vx]).run P w = .ok v w ∧ VR σ p v := by
  rcases h with ⟨rfl, rfl⟩ | ⟨b, n, rfl, hn, rfl⟩
  · cases hx
    exact ⟨.pointer none, rfl, .nilp⟩
  · have hx' := hx
    cases hx with
    | acc g hb h1 h2 h3 h4 h5 h6 h7 =>
      rename_i a c rb K sz es ra qa
      have ha := h3 hn
      subst ha
      refine ⟨.pointer (some ⟨ra, qa, none⟩), ?_, .accp hx' (fun _ => rfl) ⟨_, rfl⟩⟩
      have : c ≠ 0 := by omega
      have hdef : ∃ K : Sem Value, Builtin.unsafeSliceData_ ts ty #[.slice (some ⟨ra, qa, none⟩) n c] = if c ≠ 0 then pure (.pointer (some ⟨ra, qa, none⟩)) else K := ⟨_, rfl⟩
      obtain ⟨K, hK⟩ := hdef
      rw [hK, if_pos this]
      rfl

/-- More is frozen in an append-only block. -/
theorem Sim.freeze (hs : Sim σ m w) {b r K sz : Nat} {es : List (List PV)} (hb : σ.B[b]? = some (.acc (some r) K sz es)) {n : Nat} (hn : n ≤ es.length * sz) : Sim σ m (w.freeze ⟨r, 0, none⟩ n) ∧ Frm σ w (w.freeze ⟨r, 0, none⟩ n) := by
  by_cases h0 : n = 0
  · simp only [World.freeze, h0, if_true]; exact ⟨hs, .refl _ _⟩
  have hbm : b < m.length := by rw [← hs.len]; exact (List.getElem?_eq_some_iff.1 hb).1
  obtain ⟨x, hm⟩ : ∃ x, m[b]? = some x := ⟨_, List.getElem?_eq_getElem hbm⟩
  have hB := hs.blk _ _ _ hb hm
  cases x <;> simp only [blkOK] at hB
  rename_i t sz' es'
  obtain ⟨hB0, rfl, rfl, hB1, hB2, c, et, fr, k1, k2, k3, k4, k5⟩ := hB
  obtain ⟨fr', hfr, hw⟩ : ∃ fr', fr'.2 ≤ es'.length * sz' ∧ (w.freeze ⟨r, 0, none⟩ n).heap[r]? = some (.cells c et fr') := by
    obtain ⟨lo, hi⟩ := fr
    refine ⟨if lo == hi then (0, 0 + n) else (min lo 0, max hi (0 + n)), ?_, ?_⟩
    · simp only at k4
      split <;> simp <;> omega
    · simp only [World.freeze, if_neg h0, Array.getElem?_modify, if_true, k1, Option.map_some]
  have hoth : ∀ q, q ≠ r → (w.freeze ⟨r, 0, none⟩ n).heap[q]? = w.heap[q]? := by
    intro q hq
    simp only [World.freeze, if_neg h0, Array.getElem?_modify]
    rw [if_neg (Ne.symm hq)]
  have hsz : (w.freeze ⟨r, 0, none⟩ n).heap.size = w.heap.size := by simp [World.freeze, if_neg h0]
  have ho : (w.freeze ⟨r, 0, none⟩ n).os = w.os ∧ (w.freeze ⟨r, 0, none⟩ n).output = w.output ∧ (w.freeze ⟨r, 0, none⟩ n).tape = w.tape := by simp [World.freeze, if_neg h0]
  refine ⟨⟨hs.len, fun i k x hk hx => ?_, hs.inj, fun q o v hi => ?_, hs.Iv, hs.Ia⟩, ⟨by omega, fun q _ hq => hoth q (fun e => hq ⟨b, _, hb, by rw [e]; rfl⟩), ho.1, ho.2.1, ho.2.2⟩⟩
  · by_cases hib : i = b
    · subst hib
      rw [hb] at hk
      rw [hm] at hx
      obtain rfl := Option.some.inj hk
      obtain rfl := Option.some.inj hx
      refine ⟨fun e he => ⟨(hB0 e he).1, fun q hq => ?_⟩, rfl, rfl, hB1, hB2, c, et, fr', hw, k2, k3, hfr, k5⟩
      cases hq
      obtain ⟨c', fr2, h2⟩ := (hB0 e he).2 r rfl
      rw [k1] at h2
      simp only [Option.some.injEq, Obj.cells.injEq] at h2
      obtain ⟨rfl, rfl, rfl⟩ := h2
      exact ⟨c, fr', hw⟩
    · refine (hs.blk i k x hk hx).mono (Ext.refl σ w) (fun q hq => hoth q ?_)
      rintro rfl
      exact hs.inj b i _ k q (Ne.symm hib) hb hk rfl hq
  · by_cases hqr : q = r
    · subst hqr
      obtain ⟨c', et', fr2, h2, h3⟩ := hs.Ic _ _ _ hi
      rw [k1] at h2
      simp only [Option.some.injEq, Obj.cells.injEq] at h2
      obtain ⟨rfl, rfl, rfl⟩ := h2
      exact ⟨c, et, fr', hw, h3⟩
    · rw [hoth q hqr]; exact hs.Ic q o v hi

theorem run_loadBytes : ∀ (ns : List Int) (r o : Nat) (s : ByteArray) (w : World), (∀ (i : Nat) (n : Int), ns[i]? = some n → w.cell? ⟨r, o + i, none⟩ = some (.int .u8 n)) →
    (loadBytes ⟨r, o, none⟩ s ns.length).run P w = .ok ⟨s.data ++ (ns.map fun n => UInt8.ofNat n.toNat).toArray⟩ w
  | [], r, o, s, w, h => by simp [loadBytes, run_pure']
  | n :: ns, r, o, s, w, h => by
    have h0 := h 0 n rfl
    simp only [Nat.add_zero] at h0
    have ih := run_loadBytes ns r (o + 1) (s.push n.toNat.toUInt8) w (fun i k hk => by
      have := h (i + 1) k (by simpa using hk)
      rwa [show o + 1 + i = o + (i + 1) by omega])
    simp only [List.length_cons, loadBytes, Sem.run_bind]
    have hl : (load ⟨r, o, none⟩).run P w = .ok (.int .u8 n) w := by simp [h0]
    rw [hl, Result.andThen_ok]
    simp only [addr_add]
    rw [ih]
    congr 2
    cases s
    simp [ByteArray.push]

theorem unsafeString_nil (ts : Array TypeId) (ty : TypeId) (kk : IntKind) {pt : TypeId} (h : ts[0]? = some pt) (w : World) : (Builtin.unsafeString_ ts ty #[.pointer none, .int kk 0]).run P w = .ok (.string ⟨#[]⟩) w := by
  have hmx : ¬ ((0 : Int) > IntKind.i64.max) := by decide
  have hai : (asInt (.int kk 0)).run P w = .ok (0 : Int) w := rfl
  refine Eq.trans (Sem.run_bind P _ (asInt (.int kk 0)) _) ?_
  simp only [Sem.run_bind, hai, run_pure', Result.andThen_ok, h]
  rw [if_neg (by decide), if_neg hmx]
  rfl

theorem unsafestring_sound (hs : Sim σ m w) {b n : Nat} {vp : Value} (hp : VR σ (.accp b n) vp) {ts : Array TypeId} {ty pt u : TypeId} (ht : ts[0]? = some pt) (hpt : P.underlying pt = some (.pointer u)) {kk : IntKind} (hmax : n ≤ maxB) {t : Option TypeId} {es : List (List PV)}
    (hm : m[b]? = some (.acc t 1 es)) (hn : n = es.length) (hn0 : n ≠ 0) {l : List UInt8} (hl : bytesP es = some l) {e : TypeId} (hte : t = some e) (hlie : liesAt P P.depth e (es.length / P.cellsOf e) 0 u n = true) :
    ∃ w', (Builtin.unsafeString_ ts ty #[vp, .int kk n]).run P w = .ok (.string ⟨l.toArray⟩) w' ∧ Sim σ m w' ∧ Frm σ w w' := by
  cases hp with
  | accp ha hv _ =>
    rename_i a c
    have hva := hv hn0
    subst hva
    cases ha with
    | acc g hb h1 h2 h3 h4 h5 h6 h7 =>
      rename_i rb K sz es0 ra qa
      have hB := hs.blk _ _ _ hb hm
      simp only [blkOK] at hB
      obtain ⟨hB0, rfl, rfl, hB1, hB2, hB3⟩ := hB
      have h7 := h7 hn
      obtain ⟨hne, hty⟩ := hB0 e hte
      have hes : es ≠ [] := by rintro rfl; simp at hn; exact hn0 hn
      cases rb with
      | none => exact absurd rfl (hne hes)
      | some r =>
        simp only at h7 hB3
        obtain ⟨rfl, rfl⟩ := h7
        obtain ⟨cc, et, fr, k1, k2, k3, k4, k5⟩ := hB3
        obtain ⟨c', fr2, h8⟩ := hty r rfl
        rw [k1] at h8
        simp only [Option.some.injEq, Obj.cells.injEq] at h8
        obtain ⟨rfl, rfl, rfl⟩ := h8
        -- the bytes
        obtain ⟨b1, b2⟩ := bytesP_get es l hl
        let ns : List Int := es.map fun e => match e with | [.int .u8 n] => n | _ => 0
        have hnl : ns.length = n := by simp [ns, hn]
        have hnsl : l = ns.map fun n => UInt8.ofNat n.toNat := by
          apply List.ext_getElem?
          intro i
          rcases Nat.lt_or_ge i es.length with hi | hi
          · obtain ⟨k, he, hb⟩ := b2 i l[i] (List.getElem?_eq_getElem (by omega))
            simp only [ns, List.getElem?_map, he, Option.map_some]
            rw [List.getElem?_eq_getElem (by omega), hb]
          · rw [List.getElem?_eq_none (by omega), List.getElem?_eq_none (by simp [ns]; omega)]
        have hcells : ∀ (i : Nat) (k : Int), ns[i]? = some k → w.cell? ⟨r, 0 + i, none⟩ = some (.int .u8 k) := by
          intro i k hk
          have hi : i < es.length := by have := (List.getElem?_eq_some_iff.1 hk).1; simpa [ns] using this
          obtain ⟨k', he, hb⟩ := b2 i l[i] (List.getElem?_eq_getElem (by omega))
          simp only [ns, List.getElem?_map, he, Option.map_some, Option.some.injEq] at hk
          subst hk
          obtain ⟨v, q1, q2, q3⟩ := k5 i _ 0 _ he rfl
          cases q3
          rw [Nat.zero_add, cell_of_heap k1]
          simpa using q1
        have hlb := run_loadBytes (P := P) ns r 0 ByteArray.empty w hcells
        rw [hnl] at hlb
        have hsim := hs.freeze hb (n := n) (by simp [hn])
        refine ⟨w.freeze ⟨r, 0, none⟩ n, ?_, hsim⟩
        have hpos : ¬ ((n : Int) < 0) := by omega
        have hmx : ¬ ((n : Int) > IntKind.i64.max) := by
          have : IntKind.i64.max = 9223372036854775807 := by decide
          unfold maxB at hmax
          omega
        have hlies := liesAt_mono (c' := cc.size / P.cellsOf et) (Nat.div_le_div_right (by simpa using Nat.le_trans k3 (Nat.le_of_eq (by simpa using k2.symm)))) hlie
        have hai : (asInt (.int kk n)).run P w = .ok (n : Int) w := rfl
        refine Eq.trans (Sem.run_bind P _ (asInt (.int kk n)) _) ?_
        simp only [Sem.run_bind, hai, run_pure', Result.andThen_ok, ht]
        rw [if_neg hpos, if_neg hmx]
        try simp only [Sem.run_bind, run_pure', Result.andThen_ok]
        rw [if_neg (by omega)]
        simp only [elemOf, Sem.run_bind, run_underlying hpt, Result.andThen_ok, run_pure', run_variablesAt k1, Int.toNat_natCast, hlies, if_true, hlb, run_freeze]
        rw [hnsl]
        simp [ByteArray.empty, ByteArray.emptyWithCapacity]
        try rfl
end
end Go.Gm
