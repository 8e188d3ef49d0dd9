/- The ghost machine, part 13b: maps; conversions that look at memory; functions without a body. -/
import Derived.Test.YtnfbfcheipjonaaGreatDoorGm13
set_option linter.unusedSimpArgs false
set_option linter.unusedVariables false
namespace Go.Gm
variable {P : Program}
section
variable {σ : Sig} {m : Mem} {w : World} {ρ : Operand → PV} {ν : Operand → Value} {A : Ann} {f : FuncId} {o : Oper}

theorem bytes_beq' (a b : ByteArray) : (a == b) = true ↔ a = b := by
  cases a with | mk x => cases b with | mk y =>
  show (x == y) = true ↔ _
  rw [beq_iff_eq, ByteArray.mk.injEq]
theorem tk_bool {d : TypeDesc} (h : tk P d = .bool) : d = .bool := by
  cases d <;> simp [tk] at h <;> first | rfl | (split at h <;> simp at h)
theorem tk_map {d : TypeDesc} {k e : TypeId} (h : tk P d = .map k e) : d = .map k e := by
  cases d <;> simp [tk] at h <;> first | (obtain ⟨rfl, rfl⟩ := h; rfl) | (split at h <;> simp at h)
theorem kd_desc {t : TypeId} {k : TK} (h : kd P t = some k) : ∃ d, P.underlying t = some d ∧ tk P d = k := by
  obtain ⟨i, hi, hk⟩ := kd_spec h
  obtain ⟨inf, d, z, h1, h2, h3, _⟩ := ti_spec hi
  exact ⟨d, h2, h3.symm.trans hk⟩

/-- What a map's entries are. -/
def Ents (σ : Sig) (es : List (PV × PV)) (c : Array MapEntry) : Prop :=
  c.size = es.length ∧ ∀ (i : Nat) (x : PV × PV) (e : MapEntry), es[i]? = some x → c[i]? = some e → VR σ x.1 e.key ∧ VR σ x.2 e.val

theorem keyEq_ok {kk : TK} {d : TypeDesc} (hd : tk P d = kk) {k x : PV} {kv xv : Value} (ho : keyOK kk k = true) (hk : VR σ k kv) (hx : VR σ x xv) {b : Bool} (h : keyEq k x = some b) :
    Instr.sameNow d kv xv = some b ∧ (b = true → ∀ n, Instr.sameBits n xv kv = true) := by
  unfold keyOK at ho
  split at ho
  · cases x <;> simp [keyEq] at h
    cases hk; cases hx
    obtain rfl := tk_string hd
    subst h
    refine ⟨rfl, fun hb n => ?_⟩
    have hb := (bytes_beq' _ _).1 hb
    subst hb
    cases n <;> simp only [Instr.sameBits] <;> exact (bytes_beq' _ _).2 rfl
  · rename_i k1 k2 n1
    cases x <;> simp [keyEq] at h
    cases hk; cases hx
    obtain rfl := tk_int hd
    obtain ⟨rfl, rfl⟩ := h
    refine ⟨by simp [Instr.sameNow], fun hb n => ?_⟩
    have := eq_of_beq hb
    subst this
    cases n <;> simp [Instr.sameBits]
  · cases x <;> simp [keyEq] at h
    cases hk; cases hx
    obtain rfl := tk_bool hd
    subst h
    refine ⟨rfl, fun hb n => ?_⟩
    have := eq_of_beq hb
    subst this
    cases n <;> simp [Instr.sameBits]
  · simp at ho

theorem findP_ok {kk : TK} {d : TypeDesc} (hd : tk P d = kk) {k : PV} {kv : Value} (ho : keyOK kk k = true) (hk : VR σ k kv) : ∀ (es : List (PV × PV)) (c : List MapEntry) (i : Nat) (r : Option (Nat × PV)), c.length = es.length →
    (∀ (i : Nat) (x : PV × PV) (e : MapEntry), es[i]? = some x → c[i]? = some e → VR σ x.1 e.key ∧ VR σ x.2 e.val) → findP k es i = some r →
    match r with
    | none => Instr.findNow d kv c i = some none
    | some (j, v) => ∃ e, i ≤ j ∧ c[j - i]? = some e ∧ Instr.findNow d kv c i = some (some (j, e.val)) ∧ VR σ v e.val ∧ ∀ n, Instr.sameBits n e.key kv = true
  | [], c, i, r, hl, hr, h => by
    simp [findP] at h
    subst h
    cases c with
    | nil => rfl
    | cons x c => simp at hl
  | x :: es, [], i, r, hl, hr, h => by simp at hl
  | x :: es, y :: c, i, r, hl, hr, h => by
    obtain ⟨h1, h2⟩ := hr 0 x y rfl rfl
    unfold findP at h
    split at h
    · rename_i he
      obtain ⟨e1, e2⟩ := keyEq_ok hd ho hk h1 he
      obtain rfl := Option.some.inj h
      refine ⟨y, Nat.le_refl _, by simp, by unfold Instr.findNow; rw [e1], h2, e2 rfl⟩
    · rename_i he
      obtain ⟨e1, e2⟩ := keyEq_ok hd ho hk h1 he
      have ih := findP_ok hd ho hk es c (i + 1) r (by simpa using hl) (fun j x e a b => hr (j + 1) x e (by simpa using a) (by simpa using b)) h
      cases r with
      | none => simp only at ih ⊢; unfold Instr.findNow; rw [e1]; exact ih
      | some jv =>
        obtain ⟨j, v⟩ := jv
        simp only at ih ⊢
        obtain ⟨e, a1, a2, a3, a4, a5⟩ := ih
        refine ⟨e, by omega, ?_, by unfold Instr.findNow; rw [e1]; exact a3, a4, a5⟩
        rw [show j - i = (j - (i + 1)) + 1 by omega]
        simpa using a2
    · simp at h

theorem run_checkKey {kt : TypeId} {kk : TK} (hk : kd P kt = some kk) {k : PV} {kv : Value} (ho : keyOK kk k = true) (hv : VR σ k kv) (b : Bool) (w : World) : (Instr.checkKey b 10000 kt kv).run P w = .ok () w := by
  obtain ⟨d, h1, h2⟩ := kd_desc hk
  unfold Instr.checkKey
  simp only [Sem.run_bind, run_underlying h1, Result.andThen_ok]
  unfold keyOK at ho
  split at ho
  · obtain rfl := tk_string h2; rfl
  · obtain rfl := tk_int h2; rfl
  · obtain rfl := tk_bool h2; rfl
  · simp at ho
theorem run_findKey {kt : TypeId} {d : TypeDesc} (h1 : P.underlying kt = some d) {kv : Value} {c : List MapEntry} {r : Option (Nat × Value)} (h : Instr.findNow d kv c 0 = some r) (w : World) :
    (Instr.findKey kt kv c).run P w = .ok r w := by
  unfold Instr.findKey
  simp only [Sem.run_bind, run_underlying h1, Result.andThen_ok, h]
  rfl
theorem run_getMap {r k : Nat} {c : Array MapEntry} {w : World} (h : w.heap[r]? = some (.map c k)) : (getObj r).run P w = .ok (.map c k) w := by
  simp [getObj, Sem.run, h]
theorem run_setMap {r k k' : Nat} {c c' : Array MapEntry} {w : World} (h : w.heap[r]? = some (.map c k)) : (setObj r (.map c' k')).run P w = .ok () { w with heap := w.heap.setIfInBounds r (.map c' k') } := by
  simp [setObj, Sem.run, h]
  try rfl

theorem map_entries (hs : Sim σ m w) {b : Nat} {es : List (PV × PV)} (hm : m[b]? = some (.map es)) {v : Value} (hv : VR σ (.map b) v) :
    ∃ rb c k, v = .map (some rb) ∧ σ.B[b]? = some (.map rb) ∧ w.heap[rb]? = some (.map c k) ∧ Ents σ es c := by
  cases hv with
  | map e =>
    obtain ⟨c, k, h1, h2⟩ := hs.blk _ _ _ e hm
    exact ⟨_, c, k, rfl, e, h1, h2⟩

/-- What a map holds is turned. -/
theorem Step.setMap (h : Sim σ m w) {b rb : Nat} (hb : σ.B[b]? = some (.map rb)) {c0 : Array MapEntry} {k0 : Nat} (hw : w.heap[rb]? = some (.map c0 k0)) (es : List (PV × PV)) (c : Array MapEntry) (k : Nat) (he : Ents σ es c) {p : PV} {v : Value} (hp : VR σ p v) :
    Step σ w (m.set b (.map es)) p σ { w with heap := w.heap.setIfInBounds rb (.map c k) } v := by
  have hlt : rb < w.heap.size := (Array.getElem?_eq_some_iff.1 hw).1
  have hoth : ∀ r, r ≠ rb → (w.heap.setIfInBounds rb (.map c k))[r]? = w.heap[r]? := fun r hr => by rw [Array.getElem?_setIfInBounds_ne (Ne.symm hr)]
  have hI : ∀ o, σ.I rb o = none := by
    intro o
    cases hv : σ.I rb o with
    | none => rfl
    | some v => obtain ⟨c, et, fr, h1, _⟩ := h.Ic _ _ _ hv; rw [hw] at h1; simp at h1
  refine ⟨.refl _ _, ⟨by simp, fun r _ hr => hoth r (fun e => hr ⟨b, _, hb, by rw [e]; rfl⟩), rfl, rfl, rfl⟩, ?_, hp⟩
  refine ⟨by simp [h.len], fun i k' x hk hx => ?_, h.inj, fun r o v hi => ?_, h.Iv, h.Ia⟩
  · rcases set_get hx with ⟨rfl, rfl⟩ | ⟨hne, hx⟩
    · rw [hb] at hk
      obtain rfl := Option.some.inj hk
      exact ⟨c, k, by simp [hlt], he.1, he.2⟩
    · refine (h.blk i k' x hk hx).mono (Ext.refl σ w) (fun r hr => hoth r ?_)
      rintro rfl
      exact h.inj b i _ k' r hne hb hk rfl hr
  · rw [hoth r (fun e => by rw [e, hI] at hi; simp at hi)]
    exact h.Ic r o v hi

theorem op_makeMap (hs : Sim σ m w) {t : TypeId} (ho : o.op = .makeMap t none) {p : PV} {m' : Mem} (h : gop P A f ρ o m = some (.val p m')) : ValOK σ w ((execOp ν o).run P w) p m' := by
  simp only [gop, ho] at h
  split at h
  · simp only [Option.some.injEq, Out.val.injEq] at h
    obtain ⟨rfl, rfl⟩ := h
    have hx : ∀ r, (BK.map w.heap.size).rb? = some r → w.heap.size ≤ r := by intro r hr; simp [BK.rb?] at hr; omega
    refine ⟨σ.add (.map w.heap.size), { w with heap := w.heap.push (.map #[] 0) }, .map (some w.heap.size), .inl (by simp [execOp, ho, Instr.makeMap, newObj, Sem.run]; try rfl), Ext.add hx, Frm.push _, ?_, .map (by rw [← hs.len]; exact Sig.add_at)⟩
    exact hs.add _ _ hx (fun r hr => heap_push_old hr) ⟨#[], 0, heap_push_new, rfl, fun i x e a => by simp at a⟩
  · simp at h

theorem tupP {p q : PV} {v u : Value} (h : VR σ p v) (h' : VR σ q u) : VR σ (.tup [p, q]) (.tuple #[v, u]) := by
  refine .tup rfl (fun j x y hx hy => ?_)
  match j with
  | 0 => simp at hx hy; subst hx; subst hy; exact h
  | 1 => simp at hx hy; subst hx; subst hy; exact h'
  | j + 2 => simp at hx

theorem op_lookup (hs : Sim σ m w) (hρ : ∀ x, VR σ (ρ x) (ν x)) {t : TypeId} {x k : Operand} {ok : Bool} (ho : o.op = .lookup t x k ok) {p : PV} {m' : Mem} (h : gop P A f ρ o m = some (.val p m')) : ValOK σ w ((execOp ν o).run P w) p m' := by
  simp only [gop, ho] at h
  obtain ⟨q, hq, he⟩ := Option.map_eq_some_iff.1 h
  simp only [Out.val.injEq] at he
  obtain ⟨rfl, rfl⟩ := he
  unfold lookP at hq
  split at hq
  · rename_i kt e hk
    obtain ⟨d, hd, hdt⟩ := kd_desc hk
    obtain rfl := tk_map hdt
    split at hq
    · rename_i kk z es hkk hz hes
      obtain ⟨inf, hinf, hzero⟩ := Option.bind_eq_some_iff.1 hz
      have hzr : ∀ w, (zeroValue e).run P w = .ok z w := fun w => by simp [zeroValue, run_ti hinf, hzero, pure, Sem.run]
      obtain ⟨dk, hdk, hdkt⟩ := kd_desc hkk
      split at hq
      · rename_i hko
        have hx := hρ x
        have hkv := hρ k
        generalize hvx : ν x = vx at hx
        generalize hvk : ν k = vk at hkv
        have key : (vx = .map none ∧ es = []) ∨ ∃ rb c k', vx = .map (some rb) ∧ w.heap[rb]? = some (.map c k') ∧ Ents σ es c := by
          unfold entP at hes
          split at hes
          · rename_i e1
            rw [e1] at hx
            cases hx
            exact .inl ⟨rfl, (Option.some.inj hes).symm⟩
          · rename_i b e1
            rw [e1] at hx
            split at hes
            · rename_i es' hm
              obtain rfl := Option.some.inj hes
              obtain ⟨rb, c, k', h1, h2, h3, h4⟩ := map_entries hs hm hx
              exact .inr ⟨rb, c, k', h1, h3, h4⟩
            · simp at hes
          · simp at hes
        have hrun : ∀ (r : Option (Nat × Value)), (∀ c : Array MapEntry, Ents σ es c → Instr.findNow dk vk c.toList 0 = some r) →
            (execOp ν o).run P w = .ok (.value (if ok then .tuple #[(match r with | some x => x.2 | none => z), .bool r.isSome] else (match r with | some x => x.2 | none => z))) w := by
          intro r hr
          rcases key with ⟨rfl, rfl⟩ | ⟨rb, c, k', rfl, h3, h4⟩
          · have hf := run_findKey hdk (hr #[] ⟨rfl, fun i x e a => by simp at a⟩) w
            simp only [execOp, ho, Instr.lookup, hvx, hvk, Sem.run_bind, run_underlying hd, Result.andThen_ok, run_pure', run_checkKey hkk hko hkv, hf]
            cases r <;> simp only [Sem.run_bind, Result.andThen_ok, run_pure', hzr, Option.isSome_none, Option.isSome_some]
          · have hf := run_findKey hdk (hr c h4) w
            simp only [execOp, ho, Instr.lookup, hvx, hvk, Sem.run_bind, run_underlying hd, Result.andThen_ok, run_pure', run_getMap h3, run_checkKey hkk hko hkv, hf]
            cases r <;> simp only [Sem.run_bind, Result.andThen_ok, run_pure', hzr, Option.isSome_none, Option.isSome_some]
        split at hq
        · rename_i j v hf
          obtain rfl := Option.some.inj hq
          -- the value that is found
          have hfo : ∃ u, (∀ c : Array MapEntry, Ents σ es c → ∃ e, c[j]? = some e ∧ Instr.findNow dk vk c.toList 0 = some (some (j, e.val)) ∧ VR σ v e.val) ∧ u = v := ⟨v, fun c hc => by
            obtain ⟨en, _, a2, a3, a4, _⟩ := findP_ok hdkt hko hkv es c.toList 0 (some (j, v)) (by simpa using hc.1) (fun i x e a b => hc.2 i x e a (by simpa using b)) hf
            exact ⟨en, by simpa using a2, a3, a4⟩, rfl⟩
          obtain ⟨_, hfo, _⟩ := hfo
          rcases key with ⟨rfl, rfl⟩ | ⟨rb, c, k', rfl, h3, h4⟩
          · obtain ⟨e, a1, _⟩ := hfo #[] ⟨rfl, fun i x e a => by simp at a⟩
            simp at a1
          · obtain ⟨e, a1, a2, a3⟩ := hfo c h4
            have hf := run_findKey hdk a2 w
            cases ok with
            | true =>
              refine .same hs (tupP a3 (.bool true)) ?_
              simp only [execOp, ho, Instr.lookup, hvx, hvk, Sem.run_bind, run_underlying hd, Result.andThen_ok, run_pure', run_getMap h3, run_checkKey hkk hko hkv, hf, if_true]
            | false =>
              refine .same hs a3 ?_
              simp only [execOp, ho, Instr.lookup, hvx, hvk, Sem.run_bind, run_underlying hd, Result.andThen_ok, run_pure', run_getMap h3, run_checkKey hkk hko hkv, hf, Bool.false_eq_true, if_false]
        · rename_i hf
          obtain rfl := Option.some.inj hq
          have h0 := hrun none (fun c hc => by
            have := findP_ok hdkt hko hkv es c.toList 0 none (by simpa using hc.1) (fun i x e a b => hc.2 i x e a (by simpa using b)) hf
            simpa using this)
          cases ok with
          | true => exact .same hs (tupP (VR.ofV z) (.bool false)) (by simpa using h0)
          | false => exact .same hs (VR.ofV z) (by simpa using h0)
        · simp at hq
      · simp at hq
    · simp at hq
  · simp at hq

theorem Ents.set {es : List (PV × PV)} {c : Array MapEntry} (h : Ents σ es c) {i : Nat} {k v : PV} {kv vv : Value} (hk : VR σ k kv) (hv : VR σ v vv) : Ents σ (es.set i (k, v)) (c.modify i fun e => { e with key := kv, val := vv }) := by
  refine ⟨by simp [h.1], fun j x e a b => ?_⟩
  rw [Array.getElem?_modify] at b
  by_cases hij : i = j
  · subst hij
    simp only [if_true] at b
    rcases set_get a with ⟨_, rfl⟩ | ⟨hne, _⟩
    · obtain ⟨e0, _, rfl⟩ := Option.map_eq_some_iff.1 b
      exact ⟨hk, hv⟩
    · exact absurd rfl hne
  · rw [if_neg hij] at b
    rw [set_get_ne hij] at a
    exact h.2 j x e a b
theorem Ents.push {es : List (PV × PV)} {c : Array MapEntry} (h : Ents σ es c) {k v : PV} {kv vv : Value} (hk : VR σ k kv) (hv : VR σ v vv) (n : Nat) : Ents σ (es ++ [(k, v)]) (c.push { key := kv, val := vv, born := n }) := by
  refine ⟨by simp [h.1], fun j x e a b => ?_⟩
  rcases getElem?_snoc a with a | ⟨rfl, rfl⟩
  · have hj : j < c.size := by rw [h.1]; exact (List.getElem?_eq_some_iff.1 a).1
    rw [Array.getElem?_push_lt hj] at b
    exact h.2 j x e a (by rw [Array.getElem?_eq_getElem hj]; exact b)
  · rw [← h.1] at b
    simp at b
    subst b
    exact ⟨hk, hv⟩
theorem Ents.erase {es : List (PV × PV)} {c : Array MapEntry} (h : Ents σ es c) (i : Nat) : Ents σ (es.eraseIdx i) (c.eraseIdxIfInBounds i) := by
  have hl : (c.eraseIdxIfInBounds i).toList = c.toList.eraseIdx i := by
    unfold Array.eraseIdxIfInBounds
    split
    · simp
    · rename_i hi; rw [List.eraseIdx_of_length_le (by simpa using Nat.le_of_not_lt hi)]
  refine ⟨?_, fun j x e a b => ?_⟩
  · have := congrArg List.length hl
    simp only [Array.length_toList] at this
    rw [this, List.length_eraseIdx, List.length_eraseIdx]
    simp only [Array.length_toList, h.1]
  · have b' : (c.toList.eraseIdx i)[j]? = some e := by rw [← hl, Array.getElem?_toList]; exact b
    rw [List.getElem?_eraseIdx] at a b'
    split at a
    · rename_i hji
      rw [if_pos hji] at b'
      exact h.2 j x e a (by rw [← Array.getElem?_toList]; exact b')
    · rename_i hji
      rw [if_neg hji] at b'
      exact h.2 (j + 1) x e a (by rw [← Array.getElem?_toList]; exact b')

theorem run_update {t kt e : TypeId} {kk : TK} {dk : TypeDesc} (hd : P.underlying t = some (.map kt e)) (hkk : kd P kt = some kk) (hdk : P.underlying kt = some dk) {k : PV} {kv vv : Value} (hko : keyOK kk k = true) (hkv : VR σ k kv) {rb k0 : Nat} {c : Array MapEntry}
    (hw : w.heap[rb]? = some (.map c k0)) {r : Option (Nat × Value)} (hr : Instr.findNow dk kv c.toList 0 = some r) (hstay : ∀ i v, r = some (i, v) → ∃ en, c[i]? = some en ∧ Instr.sameBits 10000 en.key kv = true) :
    (Instr.mapUpdate t (.map (some rb)) kv vv).run P w = .ok () { w with heap := w.heap.setIfInBounds rb (match r with | some (i, _) => .map (c.modify i fun e => { e with key := kv, val := vv }) k0 | none => .map (c.push { key := kv, val := vv, born := k0 }) (k0 + 1)) } := by
  unfold Instr.mapUpdate
  simp only [Sem.run_bind, run_underlying hd, Result.andThen_ok, run_getMap hw, run_checkKey hkk hko hkv, run_findKey hdk hr]
  cases r with
  | none => simp only [run_setMap hw]
  | some iv =>
    obtain ⟨i, v⟩ := iv
    obtain ⟨en, h1, h2⟩ := hstay i v rfl
    simp only [Instr.keyThatStays, h1, Option.map_some, Option.getD_some, h2, if_true, Sem.run_bind, run_pure', Result.andThen_ok, run_setMap hw]

theorem set_sound (hs : Sim σ m w) {t : TypeId} {x k v : PV} {vx vk vv : Value} (hx : VR σ x vx) (hkv : VR σ k vk) (hv : VR σ v vv) {m' : Mem} (h : setP P t m x k v = some m') :
    ∃ w', (Instr.mapUpdate t vx vk vv).run P w = .ok () w' ∧ Step σ w m' .dead σ w' undef := by
  unfold setP at h
  split at h
  · rename_i kt e b hk
    obtain ⟨d, hd, hdt⟩ := kd_desc hk
    obtain rfl := tk_map hdt
    split at h
    · rename_i kk es hkk hm
      obtain ⟨dk, hdk, hdkt⟩ := kd_desc hkk
      split at h
      · rename_i hko
        obtain ⟨rb, c, k', rfl, h2, h3, h4⟩ := map_entries hs hm hx
        split at h
        · rename_i i v0 hf
          obtain rfl := Option.some.inj h
          obtain ⟨en, _, a2, a3, _, a5⟩ := findP_ok hdkt hko hkv es c.toList 0 (some (i, v0)) (by simpa using h4.1) (fun i x e a b => h4.2 i x e a (by simpa using b)) hf
          refine ⟨_, run_update (vv := vv) hd hkk hdk hko hkv h3 a3 (fun j v e => ?_), Step.setMap hs h2 h3 _ _ _ (h4.set hkv hv) .dead⟩
          simp only [Option.some.injEq, Prod.mk.injEq] at e
          obtain ⟨rfl, rfl⟩ := e
          exact ⟨en, by simpa using a2, a5 _⟩
        · rename_i hf
          obtain rfl := Option.some.inj h
          have hfo := findP_ok hdkt hko hkv es c.toList 0 none (by simpa using h4.1) (fun i x e a b => h4.2 i x e a (by simpa using b)) hf
          simp only at hfo
          exact ⟨_, run_update (vv := vv) hd hkk hdk hko hkv h3 hfo (fun j v e => by simp at e), Step.setMap hs h2 h3 _ _ _ (h4.push hkv hv _) .dead⟩
        · simp at h
      · simp at h
    · simp at h
  · simp at h
theorem op_mapUpdate (hs : Sim σ m w) (hρ : ∀ x, VR σ (ρ x) (ν x)) {t : TypeId} {x k v : Operand} (ho : o.op = .mapUpdate t x k v ∨ o.op = .insert t x k v) {p : PV} {m' : Mem} (h : gop P A f ρ o m = some (.val p m')) : ValOK σ w ((execOp ν o).run P w) p m' := by
  have hg : gop P A f ρ o m = (setP P t m (ρ x) (ρ k) (ρ v)).map fun m' => .val .dead m' := by
    rcases ho with ho | ho <;> simp only [gop, ho]
  rw [hg] at h
  obtain ⟨q, hq, he⟩ := Option.map_eq_some_iff.1 h
  simp only [Out.val.injEq] at he
  obtain ⟨rfl, rfl⟩ := he
  obtain ⟨w', e1, e2⟩ := set_sound (P := P) hs (hρ x) (hρ k) (hρ v) hq
  refine ⟨σ, w', undef, .inr ⟨?_, rfl⟩, e2⟩
  rcases ho with ho | ho <;> simp only [execOp, ho, Sem.run_bind, e1, Result.andThen_ok, run_pure']

theorem del_sound (hs : Sim σ m w) {t : TypeId} {x k : PV} {vx vk : Value} (hx : VR σ x vx) (hkv : VR σ k vk) {m' : Mem} (h : delP P t m x k = some m') {ts : Array TypeId} (ht : ts[0]? = some t) (ty : TypeId) :
    ∃ w', (Builtin.delete_ ts ty #[vx, vk]).run P w = .ok (.tuple #[]) w' ∧ Step σ w m' (.tup []) σ w' (.tuple #[]) := by
  have hnil : VR σ (.tup []) (.tuple #[]) := .tup rfl (fun j p v a => by simp at a)
  unfold delP at h
  split at h
  · rename_i kt e b hk
    obtain ⟨d, hd, hdt⟩ := kd_desc hk
    obtain rfl := tk_map hdt
    split at h
    · rename_i kk es hkk hm
      obtain ⟨dk, hdk, hdkt⟩ := kd_desc hkk
      split at h
      · rename_i hko
        obtain ⟨rb, c, k', rfl, h2, h3, h4⟩ := map_entries hs hm hx
        have hrun : ∀ (r : Option (Nat × Value)), Instr.findNow dk vk c.toList 0 = some r →
            (Builtin.delete_ ts ty #[.map (some rb), vk]).run P w = .ok (.tuple #[]) { w with heap := w.heap.setIfInBounds rb (match r with | some (i, _) => .map (c.eraseIdxIfInBounds i) k' | none => .map c k') } := by
          intro r hr
          unfold Builtin.delete_
          simp only [ht, List.getElem?_toArray, List.getElem?_cons_zero, List.getElem?_cons_succ, Sem.run_bind, run_underlying hd, Result.andThen_ok, run_getMap h3, run_checkKey hkk hko hkv, run_findKey hdk hr]
          cases r with
          | none => simp only [run_setMap h3, Sem.run_bind, Result.andThen_ok, run_pure']
          | some iv => simp only [run_setMap h3, Sem.run_bind, Result.andThen_ok, run_pure']
        split at h
        · rename_i i v0 hf
          obtain rfl := Option.some.inj h
          obtain ⟨en, _, a2, a3, _, a5⟩ := findP_ok hdkt hko hkv es c.toList 0 (some (i, v0)) (by simpa using h4.1) (fun i x e a b => h4.2 i x e a (by simpa using b)) hf
          exact ⟨_, hrun _ a3, Step.setMap hs h2 h3 _ _ _ (h4.erase i) hnil⟩
        · rename_i hf
          obtain rfl := Option.some.inj h
          have hfo := findP_ok hdkt hko hkv es c.toList 0 none (by simpa using h4.1) (fun i x e a b => h4.2 i x e a (by simpa using b)) hf
          simp only at hfo
          refine ⟨_, hrun _ hfo, ?_⟩
          have st := Step.setMap hs h2 h3 es c k' h4 hnil
          have hmm : m.set b (.map es) = m := by
            apply List.ext_getElem?
            intro j
            by_cases hj : b = j
            · subst hj; rw [List.getElem?_set_self (List.getElem?_eq_some_iff.1 hm).1, hm]
            · rw [List.getElem?_set_ne hj]
          rw [hmm] at st
          exact st
        · simp at h
      · simp at h
    · simp at h
  · simp at h

/-! ### Conversions that look at memory -/
theorem rowAt_mono {fits : TypeId → Bool} {d : Nat} {e : TypeId} {c c' off n : Nat} (hc : c ≤ c') (h : rowAt P fits d e c off n = true) : rowAt P fits d e c' off n = true := by
  cases d with
  | zero => simp [rowAt] at h
  | succ d =>
    unfold rowAt at h ⊢
    simp only at h ⊢
    split
    · rename_i h0; rw [if_pos h0] at h; simp at h
    · rename_i h0
      rw [if_neg h0] at h
      simp only [Bool.or_eq_true, Bool.and_eq_true, decide_eq_true_eq] at h ⊢
      rcases h with ⟨⟨h1, h2⟩, h3⟩ | ⟨h1, h2⟩
      · exact .inl ⟨⟨h1, by omega⟩, h3⟩
      · exact .inr ⟨by omega, h2⟩
theorem liesAt_mono : ∀ {d : Nat} {e : TypeId} {c c' off : Nat} {u : TypeId} {n : Nat}, c ≤ c' → liesAt P d e c off u n = true → liesAt P d e c' off u n = true
  | 0, _, _, _, _, _, _, _, h => by simp [liesAt] at h
  | d + 1, e, c, c', off, u, n, hc, h => by
    unfold liesAt at h ⊢
    simp only [Bool.or_eq_true] at h ⊢
    rcases h with h | h
    · exact .inl (rowAt_mono hc h)
    · refine .inr ?_
      split
      · rename_i m u' hu
        rw [hu] at h
        exact liesAt_mono hc h
      · rename_i hne
        split at h
        · rename_i m u' hu; exact absurd hu (hne m u')
        · simp at h

theorem run_shape {r : Nat} {c : Array Value} {t : TypeId} {fr : Nat × Nat} (h : w.heap[r]? = some (.cells c t fr)) : (shape r).run P w = .ok (some (t, c.size)) w := by
  simp [shape, Sem.run, World.shape?, h]
theorem run_seenAt {r o : Nat} {c : Array Value} {t : TypeId} {fr : Nat × Nat} (h : w.heap[r]? = some (.cells c t fr)) : (Conv.seenAt ⟨r, o, none⟩).run P w = .ok ⟨r, o, none⟩ w := by
  simp [Conv.seenAt, viewAt, Sem.run_bind, run_shape h, run_pure']

theorem run_cellsIn {r : Nat} {c : Array Value} {t : TypeId} {fr : Nat × Nat} (h : w.heap[r]? = some (.cells c t fr)) : (cellsIn r).run P w = .ok (some c.size) w := by
  unfold cellsIn
  rw [Sem.run_bind, run_shape h]
  rfl
theorem run_variablesAt {r o : Nat} {c : Array Value} {t : TypeId} {fr : Nat × Nat} (h : w.heap[r]? = some (.cells c t fr)) (u : TypeId) (n : Nat) :
    (variablesAt ⟨r, o, none⟩ u n).run P w = .ok (liesAt P P.depth t (c.size / P.cellsOf t) o u n) w := by
  unfold variablesAt
  simp only [Sem.run_bind, program, Sem.run, Result.andThen_ok, run_shape h, run_pure']

theorem bytesP_get : ∀ (es : List (List PV)) (l : List UInt8), bytesP es = some l → l.length = es.length ∧ ∀ (i : Nat) (b : UInt8), l[i]? = some b → ∃ n, es[i]? = some [.int .u8 n] ∧ b = UInt8.ofNat n.toNat
  | [], l, h => by simp [bytesP] at h; subst h; simp
  | e :: r, l, h => by
    unfold bytesP at h
    split at h
    · rename_i he; cases he
    · rename_i n r' he
      simp only [List.cons.injEq] at he
      obtain ⟨rfl, rfl⟩ := he
      obtain ⟨l', hl', rfl⟩ := Option.map_eq_some_iff.1 h
      obtain ⟨h1, h2⟩ := bytesP_get _ l' hl'
      refine ⟨by simp [h1], fun i b hb => ?_⟩
      match i with
      | 0 => simp at hb; exact ⟨n, by simp, hb.symm⟩
      | i + 1 => exact h2 i b (by simpa using hb)
    · simp at h
/-- The values of bytes. -/
theorem bytes_vals {es : List (List PV)} {vs : Array Value} (hE : Elems σ 1 es vs) {l : List UInt8} (h : bytesP es = some l) : ∃ ns : List Int, vs.toList = ns.map (Value.int .u8) ∧ l = ns.map fun n => UInt8.ofNat n.toNat := by
  obtain ⟨h1, h2, h3⟩ := hE
  obtain ⟨h4, h5⟩ := bytesP_get es l h
  refine ⟨es.map fun e => match e with | [.int .u8 n] => n | _ => 0, ?_, ?_⟩
  · apply List.ext_getElem?
    intro i
    rcases Nat.lt_or_ge i es.length with hi | hi
    · obtain ⟨n, he, _⟩ := h5 i l[i] (List.getElem?_eq_getElem (by omega))
      obtain ⟨v, hv, hr⟩ := h3 i _ 0 _ he rfl
      cases hr
      simp only [List.getElem?_map, he, Option.map_some, Array.getElem?_toList]
      simpa using hv
    · rw [List.getElem?_eq_none (by simp; omega), List.getElem?_eq_none (by simp; omega)]
  · apply List.ext_getElem?
    intro i
    rcases Nat.lt_or_ge i es.length with hi | hi
    · obtain ⟨n, he, hb⟩ := h5 i l[i] (List.getElem?_eq_getElem (by omega))
      simp only [List.getElem?_map, he, Option.map_some]
      rw [List.getElem?_eq_getElem (by omega), hb]
    · rw [List.getElem?_eq_none (by omega), List.getElem?_eq_none (by simp; omega)]

theorem run_pushes (ns : List Int) : ∀ (s : ByteArray) (w : World), (forIn (ns.map (Value.int .u8)) s (fun c s => do
      let .int .u8 n := c | stuck "bytesToString: byte expected"
      pure (ForInStep.yield (s.push (UInt8.ofNat n.toNat)))) : Sem ByteArray).run P w = .ok ⟨s.data ++ (ns.map fun n => UInt8.ofNat n.toNat).toArray⟩ w := by
  induction ns with
  | nil => intro s w; simp [Sem.run, pure]
  | cons n ns ih =>
    intro s w
    simp only [List.map_cons, List.forIn_cons, Sem.run_bind, run_pure', Result.andThen_ok]
    rw [ih]
    congr 2
    cases s
    simp [ByteArray.push]

theorem conv_bytes (hs : Sim σ m w) {e : TypeId} {x : PV} {vx : Value} (hx : VR σ x vx) {s d : TypeId} (hu : P.underlying s = some (.slice e)) (hd : P.underlying d = some .string) (he : P.underlying e = some (.int .u8))
    (hz : szOk m 1 x = true) {es : List (List PV)} (hes : elems m x = some es) {l : List UInt8} (hl : bytesP es = some l) (hns : ∀ s, vx ≠ .string s) : (convert s d vx).run P w = .ok (.string ⟨l.toArray⟩) w := by
  obtain ⟨vs, hE, hrun⟩ := elems_sound (P := P) hs hx hes hz
  obtain ⟨ns, hn, rfl⟩ := bytes_vals hE hl
  obtain ⟨h1, h2⟩ := hrun w rfl
  have hvx : ∃ a n c, vx = .slice a n c ∧ n = es.length := by
    cases vx <;> simp [Builtin.lenOf, stuck, Sem.run] at h1
    · exact absurd rfl (hns _)
    · exact ⟨_, _, _, rfl, h1⟩
  obtain ⟨a, n, c, rfl, rfl⟩ := hvx
  have key : (Conv.bytesToString (.slice a es.length c)).run P w = .ok (.string ⟨(ns.map fun n => UInt8.ofNat n.toNat).toArray⟩) w := by
    cases a with
    | none =>
      simp only [Builtin.firstCells, run_pure', Result.ok.injEq, and_true] at h2
      rw [← h2] at hn
      have : ns = [] := by simpa using hn.symm
      subst this
      simp only [Conv.bytesToString, run_pure']
      rfl
    | some a =>
      simp only [Builtin.firstCells, Nat.mul_one] at h2
      unfold Conv.bytesToString
      simp only [Sem.run_bind, h2, Result.andThen_ok]
      have := run_pushes (P := P) ns ByteArray.empty w
      rw [← hn] at this
      simp only [Array.forIn_toList] at this
      erw [this]
      simp [run_pure', ByteArray.empty, ByteArray.emptyWithCapacity]
      try rfl
  unfold convert
  simp only [Sem.run_bind, run_underlying hu, run_underlying hd, Result.andThen_ok, run_underlying he, key]

theorem conv_ptr (hs : Sim σ m w) {s d : TypeId} {x p : PV} {vx : Value} (hx : VR σ x vx) (h : convP P s d x m = some p) :
    ∃ w' v, (convert s d vx).run P w = .ok v w' ∧ (w' = w) ∧ VR σ p v := by
  unfold convP at h
  split at h
  · rename_i e hs' hd'
    split at h
    · rename_i b o i hti
      split at h
      · rename_i ty cs hm
        split at h
        · rename_i hc
          obtain rfl := Option.some.inj h
          obtain ⟨inf, d', z, g1, g2, g3, g4, _⟩ := ti_spec hti
          cases hx with
          | ptrG e =>
            have := hs.blk _ _ _ e hm
            simp [blkOK] at this
          | ptr e =>
            rename_i rb k
            obtain ⟨c, k1, k2, ⟨k3, k5⟩, k4⟩ := hs.blk _ _ _ e hm
            refine ⟨w, .pointer (some ⟨rb, o, none⟩), ?_, rfl, .ptr e⟩
            have hsz : ¬ inf.size = 0 := by rw [← g4]; omega
            have hlt : ¬ c.size ≤ o := by omega
            unfold convert
            simp only [Sem.run_bind, run_underlying hs', run_underlying hd', Result.andThen_ok, Conv.unsafePointer]
            simp only [run_seenAt k1, Sem.run_bind, Result.andThen_ok, run_cellsIn k1, run_pure', run_sz g1]
            simp [hsz, hlt, run_pure']
        · simp at h
      · simp at h
    · simp at h
  · rename_i u hs' hd'
    split at h
    · rename_i b o i hti
      split at h
      · rename_i ty cs hm
        split at h
        · rename_i hc
          obtain rfl := Option.some.inj h
          obtain ⟨inf, d', z, g1, g2, g3, g4, _⟩ := ti_spec hti
          cases hx with
          | ptrG e =>
            have := hs.blk _ _ _ e hm
            simp [blkOK] at this
          | ptr e =>
            rename_i rb k
            obtain ⟨c, k1, k2, ⟨k3, k5⟩, k4⟩ := hs.blk _ _ _ e hm
            refine ⟨w, .pointer (some ⟨rb, o, none⟩), ?_, rfl, .ptr e⟩
            have hsz : ¬ inf.size = 0 := by rw [← g4]; omega
            have hli : liesAt P P.depth ty.ty (c.size / P.cellsOf ty.ty) o u 1 = true := liesAt_mono (Nat.div_le_div_right (by omega)) hc.2
            unfold convert
            simp only [Sem.run_bind, run_underlying hs', run_underlying hd', Result.andThen_ok, Conv.unsafePointer]
            simp only [run_seenAt k1, Sem.run_bind, Result.andThen_ok, run_variablesAt k1, run_pure', run_sz g1]
            simp [hsz, hli, run_pure']
        · simp at h
      · simp at h
    · simp at h
  · rename_i e hs' hd'
    split at h
    · rename_i he
      split at h
      · rename_i hz
        split at h
        · rename_i l hl
          obtain rfl := Option.some.inj h
          obtain ⟨es, hes, hl⟩ := Option.bind_eq_some_iff.1 hl
          by_cases hns : ∀ s, vx ≠ .string s
          · exact ⟨w, _, conv_bytes hs hx hs' hd' he hz.1 hes hl hns, rfl, .str _⟩
          · exfalso
            have ⟨str, hstr⟩ : ∃ s, vx = .string s := Classical.byContradiction fun h => hns fun s e => h ⟨s, e⟩
            subst hstr
            cases hx with
            | str => simp [isStrP] at hz
            | ptrG => simp [elems] at hes
            | accp => simp [elems] at hes
            | refG e =>
              simp only [elems] at hes
              split at hes
              · rename_i hm
                have := hs.blk _ _ _ e hm
                simp [blkOK] at this
              · simp at hes
            | dead => simp [elems] at hes
        · simp at h
      · simp at h
    · simp at h
  · simp at h

/-! ### Functions without a body -/
theorem lk1 : Extern.allNextRows.lookup "internal/abi.NoEscape" = none := by kernel_rfl
theorem lk2 : Extern.allGenericRows.lookup "internal/abi.NoEscape" = none := by kernel_rfl
theorem lk3 : Extern.allTypedRows.lookup "internal/abi.NoEscape" = none := by kernel_rfl
theorem lk4 : Extern.allRows.lookup "internal/abi.NoEscape" = some Extern.AbiNoEscape.same := by kernel_rfl
theorem lk5 : Extern.allNextRows.lookup "internal/bytealg.IndexByteString" = none := by kernel_rfl
theorem lk6 : Extern.allGenericRows.lookup "internal/bytealg.IndexByteString" = none := by kernel_rfl
theorem lk7 : Extern.allTypedRows.lookup "internal/bytealg.IndexByteString" = none := by kernel_rfl
theorem lk8 : Extern.allRows.lookup "internal/bytealg.IndexByteString" = some Extern.BytealgIndexByte.indexByte := by kernel_rfl
theorem lk9 : Extern.allNextRows.lookup "" = none := by kernel_rfl
theorem ext_sound {g : FuncId} {k : ExtK} (hk : extP P g = some k) {as : List PV} {vs : Array Value} (hr : Row σ as vs) {p : PV} (h : extV k as = some p) :
    ∃ v, (callFunc g vs).run P w = .ok (.value v) w ∧ VR σ p v := by
  unfold extP at hk
  split at hk
  · rename_i fn hf
    split at hk
    · rename_i hb
      obtain ⟨hb, ho⟩ := hb
      have hnum : ∀ s : String, fn.name = s → s ≠ "runtime.NumGoroutine" → (fn.name == "runtime.NumGoroutine") = false := by
        intro s h1 h2
        rw [h1]; exact beq_false_of_ne h2
      split at hk
      · rename_i hn
        obtain rfl := Option.some.inj hk
        have e1 : Extern.findNext fn = none := by simp [Extern.findNext, hn, ho, lk1, lk9]
        have e2 : Extern.find fn = some Extern.AbiNoEscape.same := by simp [Extern.find, hn, lk2, lk3, lk4]
        match as, h with
        | [x], h =>
          simp [extV] at h
          subst h
          have hsz : vs.size = 1 := by have := hr.1; simpa using this.symm
          have hv := hr.2 0 x vs[0] rfl (by simp [hsz])
          have hvs : vs = #[vs[0]] := by
            apply Array.ext
            · simp [hsz]
            · intro i h1 h2; have : i = 0 := by omega
              subst this; rfl
          generalize vs[0] = v0 at hv hvs
          subst hvs
          refine ⟨v0, ?_, hv⟩
          unfold callFunc
          simp only [Sem.run_bind, program, Sem.run, Result.andThen_ok, hf, hnum _ hn (by decide), hb, e1, e2, Bool.false_eq_true, if_false, if_true, mark, run_pure']
          rfl
      · split at hk
        · rename_i hn
          obtain rfl := Option.some.inj hk
          have e1 : Extern.findNext fn = none := by simp [Extern.findNext, hn, ho, lk5, lk9]
          have e2 : Extern.find fn = some Extern.BytealgIndexByte.indexByte := by simp [Extern.find, hn, lk6, lk7, lk8]
          unfold extV at h
          split at h
          · rename_i heq; cases heq
          · rename_i s n _
            have hsz : vs.size = 2 := by have := hr.1; simpa using this.symm
            have h0 := hr.2 0 _ vs[0] rfl (by simp [hsz])
            have h1 := hr.2 1 _ vs[1] rfl (by simp [hsz])
            have hvs : vs = #[vs[0], vs[1]] := by
              apply Array.ext
              · simp [hsz]
              · intro i h1 h2
                have : i = 0 ∨ i = 1 := by omega
                rcases this with rfl | rfl <;> rfl
            generalize vs[0] = a at h0 hvs
            generalize vs[1] = b at h1 hvs
            cases h0; cases h1
            subst hvs
            have run : ∀ r, (Extern.BytealgIndexByte.indexByte #[.string s, .int .u8 n]).run P w = .ok r w → (callFunc g #[.string s, .int .u8 n]).run P w = .ok (.value r) w := by
              intro r hr
              unfold callFunc
              simp only [Sem.run_bind, program, Sem.run, Result.andThen_ok, hf, hnum _ hn (by decide), hb, e1, e2, Bool.false_eq_true, if_false, if_true, mark, run_pure', hr]
            split at h
            · rename_i i hi
              obtain rfl := Option.some.inj h
              refine ⟨_, run _ ?_, .int .i64 _⟩
              refine Eq.trans (Sem.run_bind P _ (pure s : Sem ByteArray) _) ?_
              rw [run_pure', Result.andThen_ok]
              refine Eq.trans (Sem.run_bind P _ (pure n.toNat.toUInt8 : Sem UInt8) _) ?_
              simp only [run_pure', Result.andThen_ok, hi]
              rfl
            · rename_i hi
              obtain rfl := Option.some.inj h
              refine ⟨_, run _ ?_, .int .i64 _⟩
              refine Eq.trans (Sem.run_bind P _ (pure s : Sem ByteArray) _) ?_
              rw [run_pure', Result.andThen_ok]
              refine Eq.trans (Sem.run_bind P _ (pure n.toNat.toUInt8 : Sem UInt8) _) ?_
              simp only [run_pure', Result.andThen_ok, hi]
              rfl
          · simp at h
        · simp at hk
    · simp at hk
  · simp at hk
end
end Go.Gm
