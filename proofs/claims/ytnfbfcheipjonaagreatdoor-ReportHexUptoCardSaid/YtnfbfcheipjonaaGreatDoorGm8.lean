/- The ghost machine, part 8: numbers, comparisons, addresses, parts. -/
import Derived.Test.YtnfbfcheipjonaaGreatDoorGm7
set_option linter.unusedSimpArgs false
set_option linter.unusedVariables false
namespace Go.Gm
variable {P : Program}
section
variable {σ : Sig} {m : Mem} {w : World} {ρ : Operand → PV} {ν : Operand → Value} {A : Ann} {f : FuncId} {o : Oper}

theorem run_part {t : TypeId} {i : TI} (hi : ti P t = some i) {cs : List PV} {vs : Array Value} (hr : Row σ cs vs) {off : Nat} {p : PV} (hp : rd i cs off = some p) (w : World) :
    ∃ v, (part t vs off).run P w = .ok v w ∧ VR σ p v := by
  obtain ⟨inf, d, z, h1, h2, _, h4, _, h6, _⟩ := ti_spec hi
  unfold rd at hp
  simp only [part, Sem.run_bind, run_ag h2, Result.andThen_ok]
  rw [h6] at hp
  cases hd : aggB d
  · rw [hd] at hp
    simp only [Bool.false_eq_true, if_false] at hp ⊢
    have hlt : off < vs.size := by rw [← hr.1]; exact (List.getElem?_eq_some_iff.1 hp).1
    refine ⟨vs[off], ?_, hr.2 off p _ hp (by simp [hlt])⟩
    rw [Array.getElem?_eq_getElem hlt]
    rfl
  · rw [hd] at hp
    simp only [if_true] at hp ⊢
    split at hp
    · rename_i hlen
      obtain rfl := Option.some.inj hp
      refine ⟨.agg (vs.extract off (off + inf.size)), by simp only [Sem.run_bind, run_sz h1, Result.andThen_ok]; rfl, .agg ?_ ?_⟩
      · have := hr.1; simp; omega
      · intro j q u a b
        have hj : j < i.size := by
          have := (List.getElem?_eq_some_iff.1 a).1
          simp at this; omega
        rw [List.getElem?_take_of_lt hj, List.getElem?_drop] at a
        have hb : vs[off + j]? = some u := by
          rw [Array.getElem?_extract] at b
          split at b
          · exact b
          · simp at b
        exact hr.2 _ q u a hb
    · exact absurd hp (by simp)


theorem eqFs_sound {d D : Nat} (ih : ∀ (t : TypeId) (x y : PV) (vx vy : Value) (b : Bool), eqT P d t x y = some b → VR σ x vx → VR σ y vy → ∀ w, (Op.equalIn D t vx vy).run P w = .ok b w)
    {xs ys : List PV} {vx vy : Array Value} (hx : Row σ xs vx) (hy : Row σ ys vy) : ∀ (fs : List Field) (b : Bool), eqFs (eqT P d) P xs ys fs = some b → ∀ w, (Op.eqFields D vx vy fs).run P w = .ok b w
  | [], b, h, w => by simp [eqFs] at h; subst h; rfl
  | g :: fs, b, h, w => by
    simp only [eqFs] at h
    split at h
    · simp at h
    · rename_i hn
      split at h
      · simp at h
      · rename_i i hi
        split at h
        · rename_i x y h1 h2
          split at h
          · rename_i a c h3 h4
            obtain rfl := Option.some.inj h
            obtain ⟨v1, e1, r1⟩ := run_part hi hx h1 w
            obtain ⟨v2, e2, r2⟩ := run_part hi hy h2 w
            have e3 := ih _ x y v1 v2 a h3 r1 r2 w
            have e4 := eqFs_sound ih hx hy fs c h4 w
            have hn' : g.name ≠ "_" := by simpa using hn
            simp only [Op.eqFields]
            rw [if_pos hn']
            simp only [Sem.run_bind, e1, e2, e3, Result.andThen_ok]
            cases a
            · rfl
            · simpa using e4
          · simp at h
        · simp at h

theorem eqT_sound : ∀ (d D : Nat), d ≤ D → ∀ (t : TypeId) (x y : PV) (vx vy : Value) (b : Bool), eqT P d t x y = some b → VR σ x vx → VR σ y vy → ∀ w, (Op.equalIn D t vx vy).run P w = .ok b w
  | 0, _, _, _, _, _, _, _, _, h, _, _, _ => by simp [eqT] at h
  | d + 1, 0, hD, _, _, _, _, _, _, _, _, _, _ => by omega
  | d + 1, D + 1, hD, t, x, y, vx, vy, b, h, hx, hy, w => by
    simp only [eqT] at h
    split at h
    · rename_i hu
      split at h
      · obtain rfl := Option.some.inj h
        cases hx; cases hy
        simp [Op.equalIn, run_underlying hu]
      · simp at h
    · rename_i hu
      split at h
      · split at h
        · rename_i hk
          subst hk
          obtain rfl := Option.some.inj h
          cases hx; cases hy
          simp [Op.equalIn, run_underlying hu]
        · simp at h
      · simp at h
    · rename_i hu
      split at h
      · obtain rfl := Option.some.inj h
        cases hx; cases hy
        simp [Op.equalIn, run_underlying hu]
      · simp at h
    · rename_i hu
      split at h
      · obtain rfl := Option.some.inj h
        cases hx; cases hy
        simp [Op.equalIn, run_underlying hu]
      · obtain rfl := Option.some.inj h
        cases hx; cases hy
        simp [Op.equalIn, run_underlying hu]
      · obtain rfl := Option.some.inj h
        cases hx
        cases hy with
        | acc g e h1 h2 h3 h4 h5 h6 h7 =>
          rw [h3 (by omega)]
          simp [Op.equalIn, run_underlying hu]
      · obtain rfl := Option.some.inj h
        cases hy
        cases hx
        simp [Op.equalIn, run_underlying hu]
      · obtain rfl := Option.some.inj h
        cases hy
        cases hx with
        | acc g e h1 h2 h3 h4 h5 h6 h7 =>
          rw [h3 (by omega)]
          simp [Op.equalIn, run_underlying hu]
      · simp at h
    · rename_i hu
      split at h
      · obtain rfl := Option.some.inj h
        cases hx; cases hy
        simp [Op.equalIn, run_underlying hu]
      · obtain rfl := Option.some.inj h
        cases hx; cases hy
        simp [Op.equalIn, run_underlying hu]
      · simp at h
    · rename_i fs hu
      split at h
      · split at h
        · simp at h
        · rename_i hst
          obtain ⟨vs, rfl, r1⟩ := VR.agg_inv hx
          obtain ⟨us, rfl, r2⟩ := VR.agg_inv hy
          have hf : P.fieldsOf t = fs := by simp [Program.fieldsOf, hu]
          rw [run_equalIn_struct w D t vs us (by rw [hf]; exact hu) (by simpa using hst), hf]
          exact eqFs_sound (fun t x y vx vy b h hx hy w => eqT_sound d D (by omega) t x y vx vy b h hx hy w) r1 r2 fs.toList b h w
      · simp at h
    · simp at h

theorem intBin_sound {op : BinOp} {k : IntKind} {a b : Int} {p : PV} (h : intBin op k a b = some p) (h1 : op ≠ .shl) (h2 : op ≠ .shr) (t : TypeId) (w : World) :
    ∃ v, (binOp op t (.int k a) (.int k b)).run P w = .ok v w ∧ VR σ p v := by
  cases op <;> simp [intBin] at h h1 h2 <;> first
    | (subst h; refine ⟨_, by simp [binOp, Op.intArith, Op.intBits, Op.intCmp] <;> rfl, ?_⟩; first | exact .int _ _ | exact .bool _)
    | (obtain ⟨h3, rfl⟩ := h; exact ⟨_, by simp [binOp, Op.intDiv, h3] <;> rfl, .int _ _⟩)


theorem run_eqGuard_int {op : BinOp} {t : TypeId} {x y : Operand} {k k' : IntKind} {a b : Int} (w : World) : (eqGuard op t x y (.int k a) (.int k' b)).run P w = .ok () w := by
  cases op <;> simp [eqGuard]
theorem run_eqGuard_str {op : BinOp} {t : TypeId} {x y : Operand} {a b : ByteArray} (w : World) : (eqGuard op t x y (.string a) (.string b)).run P w = .ok () w := by
  cases op <;> simp [eqGuard]

theorem shape_run {x y : PV} {vx vy : Value} (h : eqShape x y = true) (hx : VR σ x vx) (hy : VR σ y vy) {t : TypeId} (hg : (isAggP x && P.eqGuardType P.depth t) = false) (x' y' : Operand) (op : BinOp) (w : World) (b : Bool)
    (hr : (Op.equalIn 10000 t vx vy).run P w = .ok b w) : (eqGuard op t x' y' vx vy).run P w = .ok () w ∧ (binOp .eql t vx vy).run P w = .ok (.bool b) w ∧ (binOp .neq t vx vy).run P w = .ok (.bool !b) w := by
  cases hx <;> cases hy
  all_goals try (simp [eqShape] at h; done)
  case agg.agg =>
    have hg' : P.eqGuardType P.depth t = false := by simpa [isAggP] using hg
    exact ⟨run_eqGuard_agg w op t x' y' _ _ hg', by rw [run_eql_struct, hr]; rfl, by rw [run_neq_struct, hr]; rfl⟩
  all_goals
    refine ⟨?_, ?_, ?_⟩
    · cases op <;> simp [eqGuard]
    · simp only [binOp]; simp [Op.equal, Op.maxDepth, hr]
    · simp only [binOp]; simp [Op.equal, Op.maxDepth, hr]

theorem ptr_some (hs : Sim σ m w) {b o : Nat} {v : Value} (hv : VR σ (.ptr b o) v) {t : VT} {cs : List PV} (hm : m[b]? = some (.var t cs)) : ∃ rb n, σ.B[b]? = some (.var rb n) ∧ v = .pointer (some ⟨rb, o, none⟩) := by
  cases hv with
  | ptrG e =>
    have := hs.blk _ _ _ e hm
    simp [blkOK] at this
  | ptr e => exact ⟨_, _, e, rfl⟩
theorem eqPtr0_sound (hs : Sim σ m w) {t : TypeId} {x y : PV} {vx vy : Value} (hx : VR σ x vx) (hy : VR σ y vy) {b : Bool} (h : eqPtr0 P t m x y = some b) :
    (Op.equal t vx vy).run P w = .ok b w ∧ (∀ (op : BinOp) (x' y' : Operand), (eqGuard op t x' y' vx vy).run P w = .ok () w) ∧
    ∀ op, op = .eql ∨ op = .neq → binOp op t vx vy = (match op with | .eql => (do pure (.bool (← Op.equal t vx vy)) : Sem Value) | _ => (do pure (.bool (!(← Op.equal t vx vy))) : Sem Value)) := by
  have D : ∃ d, Op.maxDepth = d + 1 := ⟨_, rfl⟩
  obtain ⟨d, hd⟩ := D
  unfold eqPtr0 at h
  split at h
  · rename_i e hu
    split at h
    · cases hx; cases hy
      obtain rfl := Option.some.inj h
      exact ⟨by rw [Op.equal, hd]; simp [Op.equalIn, Sem.run_bind, run_underlying hu, pure, Sem.run], fun op x' y' => by cases op <;> rfl, fun op hop => by rcases hop with rfl | rfl <;> rfl⟩
    · split at h
      · rename_i hm
        obtain rfl := Option.some.inj h
        cases hx
        obtain ⟨rb, n, _, rfl⟩ := ptr_some hs hy hm
        exact ⟨by rw [Op.equal, hd]; simp [Op.equalIn, Sem.run_bind, run_underlying hu, pure, Sem.run], fun op x' y' => by cases op <;> rfl, fun op hop => by rcases hop with rfl | rfl <;> rfl⟩
      · simp at h
    · split at h
      · rename_i hm
        obtain rfl := Option.some.inj h
        cases hy
        obtain ⟨rb, n, _, rfl⟩ := ptr_some hs hx hm
        exact ⟨by rw [Op.equal, hd]; simp [Op.equalIn, Sem.run_bind, run_underlying hu, pure, Sem.run], fun op x' y' => by cases op <;> rfl, fun op hop => by rcases hop with rfl | rfl <;> rfl⟩
      · simp at h
    · rename_i b o c q
      split at h
      · rename_i i hm hti
        split at h
        · rename_i hc
          obtain ⟨rfl, hsz⟩ := hc
          obtain rfl := Option.some.inj h
          obtain ⟨rb, n, hb, rfl⟩ := ptr_some hs hx hm
          obtain ⟨rb', n', hb', rfl⟩ := ptr_some hs hy hm
          rw [hb] at hb'
          simp only [Option.some.injEq, BK.var.injEq] at hb'
          obtain ⟨rfl, rfl⟩ := hb'
          obtain ⟨inf, d', z, g1, g2, g3, g4, _⟩ := ti_spec hti
          have hne : inf.size ≠ 0 := by omega
          refine ⟨?_, fun op x' y' => by cases op <;> rfl, fun op hop => by rcases hop with rfl | rfl <;> rfl⟩
          rw [Op.equal, hd]
          simp only [Op.equalIn, Sem.run_bind, run_underlying hu, Result.andThen_ok, run_sz g1]
          rw [if_pos hne]
          simp only [sameAddr, beq_self_eq_true, if_true, run_pure', Result.ok.injEq, and_true]
          by_cases hoq : o = q
          · subst hoq; simp
          · have h1 : (o == q) = false := beq_false_of_ne hoq
            rw [h1]
            apply beq_false_of_ne
            intro he
            simp only [Addr.mk.injEq] at he
            exact hoq he.2.1
        · simp at h
      · simp at h
    · simp at h
  · rename_i hu
    split at h
    · cases hx; cases hy
      obtain rfl := Option.some.inj h
      exact ⟨by rw [Op.equal, hd]; simp [Op.equalIn, Sem.run_bind, run_underlying hu, pure, Sem.run], fun op x' y' => by cases op <;> rfl, fun op hop => by rcases hop with rfl | rfl <;> rfl⟩
    · cases hx; cases hy
      obtain rfl := Option.some.inj h
      exact ⟨by rw [Op.equal, hd]; simp [Op.equalIn, Sem.run_bind, run_underlying hu, pure, Sem.run], fun op x' y' => by cases op <;> rfl, fun op hop => by rcases hop with rfl | rfl <;> rfl⟩
    · cases hx; cases hy
      obtain rfl := Option.some.inj h
      exact ⟨by rw [Op.equal, hd]; simp [Op.equalIn, Sem.run_bind, run_underlying hu, pure, Sem.run], fun op x' y' => by cases op <;> rfl, fun op hop => by rcases hop with rfl | rfl <;> rfl⟩
    · simp at h
  · simp at h

theorem op_binOp (hs : Sim σ m w) (hρ : ∀ x, VR σ (ρ x) (ν x)) {op : BinOp} {t u : TypeId} {x y : Operand} (ho : o.op = .binOp op t x y u) {p : PV} {m' : Mem} (h : gop P A f ρ o m = some (.val p m')) :
    ValOK σ w ((execOp ν o).run P w) p m' := by
  simp only [gop, ho] at h
  obtain ⟨q, hq, he⟩ := Option.map_eq_some_iff.1 h
  simp only [Out.val.injEq] at he
  obtain ⟨rfl, rfl⟩ := he
  have hx := hρ x
  have hy := hρ y
  have main : ∀ v, (binOp op t (ν x) (ν y)).run P w = .ok v w → (eqGuard op t x y (ν x) (ν y)).run P w = .ok () w → VR σ q v → ValOK σ w ((execOp ν o).run P w) q m := by
    intro v h1 h2 h3
    refine .same hs h3 ?_
    simp only [execOp, ho, Sem.run_bind, h2, Result.andThen_ok, h1]
    rfl
  split at hq
  · unfold eqPtr at hq
    have nint : ∀ b, eqPtr0 P t m (ρ x) (ρ y) = some b → ∀ op, op = .eql ∨ op = .neq → (binOp op t (ν x) (ν y)).run P w = .ok (.bool (match op with | .eql => b | _ => !b)) w := by
      intro b hb op hop
      obtain ⟨he, _, h3⟩ := eqPtr0_sound (P := P) hs hx hy hb
      rw [h3 op hop]
      rcases hop with rfl | rfl <;> simp only [Sem.run_bind, he, Result.andThen_ok, run_pure']
    split at hq
    · obtain ⟨b, hb, rfl⟩ := Option.map_eq_some_iff.1 hq
      exact main _ (nint b hb _ (.inl rfl)) ((eqPtr0_sound (P := P) hs hx hy hb).2.1 _ _ _) (.bool _)
    · obtain ⟨b, hb, rfl⟩ := Option.map_eq_some_iff.1 hq
      exact main _ (nint b hb _ (.inr rfl)) ((eqPtr0_sound (P := P) hs hx hy hb).2.1 _ _ _) (.bool _)
    · simp at hq
  unfold bin at hq
  split at hq
  · rename_i k a k' b e1 e2
    rw [e1] at hx; rw [e2] at hy
    generalize ν x = vx at hx main
    generalize ν y = vy at hy main
    cases hx; cases hy
    split at hq
    · split at hq
      · simp at hq
      · rename_i hb
        obtain rfl := Option.some.inj hq
        exact main _ (by simp [binOp, Op.shift, hb] <;> rfl) (run_eqGuard_int w) (.int _ _)
    · split at hq
      · simp at hq
      · rename_i hb
        obtain rfl := Option.some.inj hq
        exact main _ (by simp [binOp, Op.shift, hb] <;> rfl) (run_eqGuard_int w) (.int _ _)
    · split at hq
      · rename_i n1 n2 hk
        subst hk
        obtain ⟨v, h1, h2⟩ := intBin_sound (P := P) (σ := σ) hq n1 n2 t w
        exact main v h1 (run_eqGuard_int w) h2
      · simp at hq
  · rename_i a b e1 e2
    rw [e1] at hx; rw [e2] at hy
    generalize ν x = vx at hx main
    generalize ν y = vy at hy main
    cases hx; cases hy
    split at hq
    · split at hq
      · rename_i hb
        obtain rfl := Option.some.inj hq
        refine main (.string (a ++ b)) ?_ (run_eqGuard_str w) (.str _)
        have : ¬ ((a.size + b.size : Nat) : Int) > IntKind.i64.max := by
          have : IntKind.i64.max = 9223372036854775807 := by decide
          rw [this]; omega
        simp only [binOp, Op.stringOp, if_neg this]
        rfl
      · simp at hq
    · obtain rfl := Option.some.inj hq
      exact main _ (by simp only [binOp, Op.stringOp] <;> rfl) (run_eqGuard_str w) (.bool _)
    · obtain rfl := Option.some.inj hq
      exact main _ (by simp only [binOp, Op.stringOp] <;> rfl) (run_eqGuard_str w) (.bool _)
    · simp at hq
  · have key : ∀ b, eqV P t (ρ x) (ρ y) = some b → _ := fun b hb => by
      unfold eqV at hb
      split at hb
      · rename_i hc
        simp only [Bool.and_eq_true, Bool.not_eq_true'] at hc
        exact shape_run hc.1 hx hy hc.2 x y op w b (eqT_sound 30 10000 (by omega) t _ _ _ _ b hb hx hy w)
      · simp at hb
    split at hq
    · obtain ⟨b, hb, rfl⟩ := Option.map_eq_some_iff.1 hq
      obtain ⟨h1, h2, h3⟩ := key b hb
      exact main _ h2 h1 (.bool _)
    · obtain ⟨b, hb, rfl⟩ := Option.map_eq_some_iff.1 hq
      obtain ⟨h1, h2, h3⟩ := key b hb
      exact main _ h3 h1 (.bool _)
    · simp at hq
end
end Go.Gm
