/- The ghost machine, part 15: every operation: a value, a call, a panic. -/
import Derived.Test.YtnfbfcheipjonaaGreatDoorGm14
set_option linter.unusedSimpArgs false
set_option linter.unusedVariables false
namespace Go.Gm
variable {P : Program}
section
variable {σ : Sig} {m : Mem} {w : World} {ρ : Operand → PV} {ν : Operand → Value} {A : Ann} {f : FuncId} {o : Oper}

theorem tup2v {p : PV} {b : Bool} {v : Value} (h : VR σ p v) : VR σ (.tup [p, .bool b]) (.tuple #[v, .bool b]) := by
  refine .tup rfl (fun j q u hq hu => ?_)
  match j with
  | 0 => simp at hq hu; subst hq; subst hu; exact h
  | 1 => simp at hq hu; subst hq; subst hu; exact .bool b
  | j + 2 => simp at hq
theorem op_typeAssert (hs : Sim σ m w) (hρ : ∀ x, VR σ (ρ x) (ν x)) {x : Operand} {s t : TypeId} {ok : Bool} (ho : o.op = .typeAssert x s t ok) {p : PV} {m' : Mem} (h : gop P A f ρ o m = some (.val p m')) :
    ValOK σ w ((execOp ν o).run P w) p m' := by
  simp only [gop, ho] at h
  split at h
  · simp at h
  · rename_i k z hne hk hz
    obtain ⟨inf, hinf, hzero⟩ := Option.bind_eq_some_iff.1 hz
    have hu : ∃ d, P.underlying t = some d ∧ ∀ l, d ≠ .interface l := by
      unfold kd at hk
      obtain ⟨i, hi, rfl⟩ := Option.map_eq_some_iff.1 hk
      obtain ⟨inf', d, z', h1, h2, h3, _⟩ := ti_spec hi
      refine ⟨d, h2, ?_⟩
      rintro l rfl
      exact hne (by rw [h3]; rfl)
    obtain ⟨d, hd, hnd⟩ := hu
    have hzr : (zeroValue t).run P w = .ok z w := by simp [zeroValue, run_ti hinf, hzero, pure, Sem.run]
    have hx := hρ x
    split at h
    · rename_i u v hv
      rw [hv] at hx
      generalize hvx : ν x = vx at hx
      cases hx with
      | iface hv' =>
        rename_i val
        split at h
        · rename_i hut
          subst hut
          simp only [Option.some.injEq, Out.val.injEq] at h
          obtain ⟨rfl, rfl⟩ := h
          cases ok with
          | true =>
            refine .same hs (tup2v hv') ?_
            simp only [execOp, ho, Instr.typeAssert, hvx, Sem.run_bind, run_underlying hd, Result.andThen_ok]
            cases d <;> first | exact absurd rfl (hnd _) | simp [pure, Sem.run]
          | false =>
            refine .same hs hv' ?_
            simp only [execOp, ho, Instr.typeAssert, hvx, Sem.run_bind, run_underlying hd, Result.andThen_ok]
            cases d <;> first | exact absurd rfl (hnd _) | simp [pure, Sem.run]
        · rename_i hut
          split at h
          · rename_i hok
            subst hok
            simp only [Option.some.injEq, Out.val.injEq] at h
            obtain ⟨rfl, rfl⟩ := h
            refine .same hs (tup2v (VR.ofV z)) ?_
            simp only [execOp, ho, Instr.typeAssert, hvx, Sem.run_bind, run_underlying hd, Result.andThen_ok]
            cases d <;> first | exact absurd rfl (hnd _) | simp [hut, hzr, pure, Sem.run]
          · simp at h
    · rename_i hv
      rw [hv] at hx
      generalize hvx : ν x = vx at hx
      cases hx
      split at h
      · rename_i hok
        subst hok
        simp only [Option.some.injEq, Out.val.injEq] at h
        obtain ⟨rfl, rfl⟩ := h
        refine .same hs (tup2v (VR.ofV z)) ?_
        simp only [execOp, ho, Instr.typeAssert, hvx, Sem.run_bind, run_underlying hd, Result.andThen_ok]
        cases d <;> first | exact absurd rfl (hnd _) | simp [hzr, pure, Sem.run]
      · simp at h
    · simp at h
  · simp at h

theorem row_map (hρ : ∀ x, VR σ (ρ x) (ν x)) (l : Array Operand) : Row σ (l.toList.map ρ) (l.map ν) := by
  refine ⟨by simp, fun j p v a b => ?_⟩
  rw [List.getElem?_map] at a
  obtain ⟨y, hy, rfl⟩ := Option.map_eq_some_iff.1 a
  rw [Array.getElem?_map] at b
  obtain ⟨z, hz, rfl⟩ := Option.map_eq_some_iff.1 b
  simp at hy
  rw [hz] at hy
  obtain rfl := Option.some.inj hy
  exact hρ _
theorem Row.append {a b : List PV} {x y : Array Value} (h : Row σ a x) (h' : Row σ b y) : Row σ (a ++ b) (x ++ y) := by
  refine ⟨by simp [h.1, h'.1], fun j p v e1 e2 => ?_⟩
  rcases Nat.lt_or_ge j a.length with hj | hj
  · rw [List.getElem?_append_left hj] at e1
    rw [Array.getElem?_append_left (by rw [← h.1]; exact hj)] at e2
    exact h.2 j p v e1 e2
  · rw [List.getElem?_append_right hj] at e1
    rw [Array.getElem?_append_right (by rw [← h.1]; exact hj), ← h.1] at e2
    exact h'.2 _ p v e1 e2
theorem gop_val (hs : Sim σ m w) (hρ : ∀ x, VR σ (ρ x) (ν x)) {p : PV} {m' : Mem} (h : gop P A f ρ o m = some (.val p m')) : ValOK σ w ((execOp ν o).run P w) p m' := by
  cases ho : o.op with
  | move x =>
    have h' := h
    simp only [gop, ho, Option.some.injEq, Out.val.injEq] at h'
    obtain ⟨rfl, rfl⟩ := h'
    exact op_move hs hρ ho
  | assign x => exact op_assign hs hρ ho h
  | pick c a b => exact op_pick hs hρ ho h
  | alloc e => exact op_alloc hs ho h
  | box e x => exact op_box hs hρ ho h
  | build t ps => exact op_build hs hρ ho h
  | buildSlice t n ps => exact op_buildSlice hs hρ ho h
  | load t a => exact op_load hs hρ ho h
  | store t a x => exact op_store hs hρ ho h
  | nilCheck x => exact op_nilCheck hs hρ ho h
  | binOp op t x y u => exact op_binOp hs hρ ho h
  | unOp op t x => exact op_unOp hs hρ ho h
  | convert s d x =>
    cases hmem : A.mem s d with
    | false => exact op_convert0 hs hρ ho hmem h
    | true =>
      simp only [gop, ho, hmem, if_true] at h
      obtain ⟨q, hq, he⟩ := Option.map_eq_some_iff.1 h
      simp only [Out.val.injEq] at he
      obtain ⟨rfl, rfl⟩ := he
      obtain ⟨w', v, e1, rfl, e2⟩ := conv_ptr (P := P) hs (hρ x) hq
      exact .same hs e2 (by simp only [execOp, ho, Sem.run_bind, e1, Result.andThen_ok, run_pure'])
  | makeMap t r =>
    cases r with
    | none => exact op_makeMap hs ho h
    | some x => simp [gop, ho] at h
  | lookup t x k ok => exact op_lookup hs hρ ho h
  | mapUpdate t x k v => exact op_mapUpdate hs hρ (.inl ho) h
  | insert t x k v => exact op_mapUpdate hs hρ (.inr ho) h
  | makeInterface t x => exact op_makeInterface hs hρ ho h
  | makeFunc fn a c => exact op_makeFunc hs hρ ho h
  | makeSlice t l c => exact op_makeSlice hs hρ ho h
  | slice t x lo hi mx =>
    cases mx with
    | none => exact op_slice hs hρ ho h
    | some y => simp [gop, ho] at h
  | fieldAddr s x k => exact op_fieldAddr hs hρ ho h
  | field s x k => exact op_field hs hρ ho h
  | indexAddr t x ix => exact op_indexAddr hs hρ ho h
  | index t x ix => exact op_index hs hρ ho h
  | extract x k => exact op_extract hs hρ ho h
  | call c =>
    cases hc : c.callee with
    | builtin b => exact op_builtin hs hρ hc ho h
    | value g =>
      simp only [gop, ho, hc] at h
      split at h
      · rename_i q first cap hq
        split at h
        · rename_i k hk
          obtain ⟨v, hv, he⟩ := Option.map_eq_some_iff.1 h
          simp only [Out.val.injEq] at he
          obtain ⟨rfl, rfl⟩ := he
          have hg := hρ g
          rw [hq] at hg
          generalize hvg : ν g = vg at hg
          cases hg with
          | fn h1 h2 h3 h4 =>
            rename_i x y
            obtain ⟨u, e1, e2⟩ := ext_sound (P := P) (w := w) hk (Row.append (Row.append ⟨h1, h3⟩ (row_map hρ c.args)) ⟨h2, h4⟩) hv
            exact .same hs e2 (by simp only [execOp, ho, resolve, hc, hvg, Deferred.ofValue, Sem.run_bind, run_pure', Result.andThen_ok, invoke, e1])
        · simp at h
      · simp at h
    | invoke r n =>
      exfalso
      simp only [gop, ho, hc] at h
      split at h <;> simp at h
  | panic x =>
    exfalso
    simp only [gop, ho] at h
    split at h <;> simp at h
  | typeAssert x s t ok => exact op_typeAssert hs hρ ho h
  | _ => simp [gop, ho] at h

theorem Row.one {p : PV} {v : Value} (h : VR σ p v) : Row σ [p] #[v] := by
  refine ⟨rfl, fun j q u a b => ?_⟩
  match j with
  | 0 => simp at a b; subst a; subst b; exact h
  | j + 1 => simp at a

theorem builtinP_noenter {b : Builtin} {ts : Array TypeId} {args : List PV} {dst : Option Tmp} {g : FuncId} {as : List PV} : builtinP P A f dst b ts args m ≠ some (.enter g as) := by
  intro h
  unfold builtinP at h
  (repeat' split at h) <;> first | (simp at h; done) | skip
  all_goals
    unfold appendP at h
    (repeat' split at h) <;> simp at h

theorem gop_enter (hρ : ∀ x, VR σ (ρ x) (ν x)) {g : FuncId} {as : List PV} (h : gop P A f ρ o m = some (.enter g as)) : ∃ vs, (execOp ν o).run P w = (callFunc g vs).run P w ∧ Row σ as vs := by
  cases ho : o.op with
  | call c =>
    cases hc : c.callee with
    | builtin b =>
      simp only [gop, ho, hc] at h
      exact absurd h builtinP_noenter
    | value q =>
      simp only [gop, ho, hc] at h
      split at h
      · rename_i hh first cap hq
        split at h
        · obtain ⟨v, hv, he⟩ := Option.map_eq_some_iff.1 h
          simp at he
        simp only [Option.some.injEq, Out.enter.injEq] at h
        obtain ⟨rfl, rfl⟩ := h
        have hv := hρ q
        rw [hq] at hv
        generalize hvq : ν q = vq at hv
        cases hv with
        | fn h1 h2 h3 h4 =>
          rename_i x y
          refine ⟨x ++ c.args.map ν ++ y, ?_, (Row.append (Row.append ⟨h1, h3⟩ (row_map hρ c.args)) ⟨h2, h4⟩)⟩
          simp only [execOp, ho, resolve, hc, hvq, Deferred.ofValue, Sem.run_bind, run_pure', Result.andThen_ok, invoke]
      · simp at h
    | invoke r n =>
      simp only [gop, ho, hc] at h
      split at h
      · rename_i t v hr
        obtain ⟨⟨f', v'⟩, hm, he⟩ := Option.map_eq_some_iff.1 h
        simp only [Out.enter.injEq] at he
        obtain ⟨rfl, rfl⟩ := he
        have hv := hρ r
        rw [hr] at hv
        generalize hvr : ν r = vr at hv
        cases hv with
        | iface hv =>
          rename_i u
          have hrow := Row.append (Row.one hv) (row_map hρ c.args)
          unfold methP at hm
          split at hm
          · simp at hm
          · rename_i inf hinf
            split at hm
            · simp at hm
            · rename_i mt hmt
              split at hm
              · rename_i hpath
                have hpl : mt.path.toList = [] := by simpa using hpath
                have hmeth : (method (P.types.size + Made.depth) t u n).run P w = .ok (f', u) w ∧ v' = v := by
                  have hd : P.types.size + Made.depth = (P.types.size + 99) + 1 := by simp [Made.depth]
                  rw [hd]
                  unfold method
                  simp only [Sem.run_bind, run_ti hinf, Result.andThen_ok, hmt, hpl, follow, run_pure']
                  split at hm
                  · rename_i f0 e0 hf0 hu0
                    simp only [Option.some.injEq, Prod.mk.injEq] at hm
                    obtain ⟨rfl, rfl⟩ := hm
                    simp only [hf0, receiverAt, Sem.run_bind, run_underlying hu0, Result.andThen_ok, Place.get, run_pure']
                    exact ⟨trivial, trivial⟩
                  · simp at hm
                  · rename_i f0 d0 hnp hf0 hu0
                    simp only [Option.some.injEq, Prod.mk.injEq] at hm
                    obtain ⟨rfl, rfl⟩ := hm
                    simp only [hf0, receiverAt, Sem.run_bind, run_underlying hu0, Result.andThen_ok, Place.get, run_pure']
                    cases d0 <;> first | exact (hnp _ rfl).elim | exact ⟨rfl, trivial⟩ | exact ⟨trivial, trivial⟩
                  · simp at hm
                obtain ⟨hm1, rfl⟩ := hmeth
                refine ⟨#[u] ++ c.args.map ν, ?_, hrow⟩
                have hex : (#[Value.iface t u] ++ Array.map ν c.args).extract 1 (#[Value.iface t u] ++ Array.map ν c.args).size = Array.map ν c.args := by
                  simp
                simp only [execOp, ho, resolve, hc, hvr, Sem.run_bind, run_pure', Result.andThen_ok, invoke]
                have h0 : (#[Value.iface t u] ++ Array.map ν c.args)[0]? = some (Value.iface t u) := by rw [Array.getElem?_append_left (by simp)]; rfl
                simp only [h0, callMethod, Sem.run_bind, run_program, Result.andThen_ok, hm1, hex]
              · simp at hm
      · simp at h
  | slice t x lo hi mx =>
    exfalso
    cases mx with
    | none => simp [gop, ho] at h
    | some y => simp [gop, ho] at h
  | makeMap t r =>
    exfalso
    cases r with
    | none => simp only [gop, ho] at h; split at h <;> simp at h
    | some y => simp [gop, ho] at h
  | _ => first
    | (simp [gop, ho] at h; done)
    | (exfalso
       simp only [gop, ho] at h
       (repeat' split at h) <;> simp at h)

theorem gop_panic (hρ : ∀ x, VR σ (ρ x) (ν x)) {p : PV} (h : gop P A f ρ o m = some (.panic p)) : ∃ v, (execOp ν o).run P w = .halt (.panic v) w ∧ VR σ p v := by
  cases ho : o.op with
  | panic x =>
    simp only [gop, ho] at h
    split at h
    · rename_i t q hx
      simp only [Option.some.injEq, Out.panic.injEq] at h
      subst h
      have hv := hρ x
      rw [hx] at hv
      generalize hvx : ν x = vx at hv
      cases hv with
      | iface hv => exact ⟨_, by simp [execOp, ho, hvx, Instr.panic, goPanic, Sem.run], .iface hv⟩
    · simp at h
  | call c =>
    exfalso
    cases hc : c.callee with
    | builtin b =>
      simp only [gop, ho, hc] at h
      unfold builtinP at h
      (repeat' split at h) <;> first | (simp at h; done) | skip
      all_goals
        unfold appendP at h
        (repeat' split at h) <;> simp at h
    | value q =>
      simp only [gop, ho, hc] at h
      split at h
      · split at h
        · obtain ⟨v, hv, he⟩ := Option.map_eq_some_iff.1 h
          simp at he
        · simp at h
      · simp at h
    | invoke r n => simp only [gop, ho, hc] at h; split at h <;> simp at h
  | slice t x lo hi mx =>
    exfalso
    cases mx with
    | none => simp [gop, ho] at h
    | some y => simp [gop, ho] at h
  | makeMap t r =>
    exfalso
    cases r with
    | none => simp only [gop, ho] at h; split at h <;> simp at h
    | some y => simp [gop, ho] at h
  | _ => first
    | (simp [gop, ho] at h; done)
    | (exfalso
       simp only [gop, ho] at h
       (repeat' split at h) <;> simp at h)
end
end Go.Gm
