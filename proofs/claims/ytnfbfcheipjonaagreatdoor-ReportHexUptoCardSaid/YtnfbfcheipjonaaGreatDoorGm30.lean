/- The ghost machine, part 30: without fuel: what a function computes, and rules for its code. -/
import Derived.Test.YtnfbfcheipjonaaGreatDoorGm29
set_option linter.unusedSimpArgs false
set_option linter.unusedVariables false
namespace Go.Gm

def Runs (E : Env) (g : FuncId) (as : List PV) (m : Mem) (r : CRes) (m' : Mem) : Prop := ∃ n, run E n g as m = some (r, m')
def Call (E : Env) (g : FuncId) (as : List PV) (m : Mem) (r : CRes) (m' : Mem) : Prop := ∃ n, callN E n g as m = some (r, m')
def XO (E : Env) (f : FuncId) (ops : Array Oper) (o : Oper) (s : St) (e : Ex) (s' : St) : Prop := ∃ n, opStep E (callN E n) f ops o s = some (e, s')
def XS (E : Env) (f : FuncId) (ops : Array Oper) (l : List Oper) (s : St) (e : Ex) (s' : St) : Prop := ∃ n, opSteps E (callN E n) f ops l s = some (e, s')
def XT (E : Env) (f : FuncId) (ops : Array Oper) (l : List Oper) (s : St) (l' : List St) : Prop := ∃ n, runT E (callN E n) f ops l s = some l'
def X (E : Env) (f : FuncId) (c : Code) (s : St) (e : Ex) (s' : St) : Prop := ∃ n, exec E (callN E n) (drawE E (callN E n)) n f c s = some (e, s')

theorem callN_le {E : Env} {n k : Nat} (h : n ≤ k) : CallF.le (callN E n) (callN E k) := fun g as m x hx => iso_le (fun as m x hx => run_le n k g as m x h hx) hx

section
variable {E : Env} {f : FuncId} {s s1 s' : St} {e : Ex}

theorem X.lift {c : Code} {n k : Nat} (h : n ≤ k) {x : Ex × St} (hx : exec E (callN E n) (drawE E (callN E n)) n f c s = some x) : exec E (callN E k) (drawE E (callN E k)) k f c s = some x :=
  exec_le (callN_le h) h c s x hx

theorem X.skip : X E f .skip s .norm s := ⟨0, rfl⟩
theorem X.exit {id : Nat} : X E f (.exit id) s (.exit id) s := ⟨0, rfl⟩
theorem X.ret : X E f .ret s .ret s := ⟨0, rfl⟩
theorem X.seq {a b : Code} (h : X E f a s .norm s1) (h' : X E f b s1 e s') : X E f (.seq a b) s e s' := by
  obtain ⟨n, hn⟩ := h
  obtain ⟨k, hk⟩ := h'
  refine ⟨max n k, ?_⟩
  simp only [exec, X.lift (Nat.le_max_left n k) hn, X.lift (Nat.le_max_right n k) hk]
theorem X.seq_out {a b : Code} (h : X E f a s e s') (he : e ≠ .norm) : X E f (.seq a b) s e s' := by
  obtain ⟨n, hn⟩ := h
  refine ⟨n, ?_⟩
  simp only [exec, hn]
  try (cases e <;> first | exact absurd rfl he | rfl)
theorem X.cond {c : Operand} {a b : Code} {t : Bool} (hc : geval E.G s.r c = .bool t) (h : X E f (if t then a else b) s e s') : X E f (.cond c a b) s e s' := by
  obtain ⟨n, hn⟩ := h
  refine ⟨n, ?_⟩
  cases t
  · simp only [exec, hc]; exact hn
  · simp only [exec, hc]; exact hn
theorem X.block {id : Nat} {c : Code} (h : X E f c s e s') (he : e ≠ .exit id) : X E f (.block id c) s e s' := by
  obtain ⟨n, hn⟩ := h
  refine ⟨n, ?_⟩
  simp only [exec, hn]
  cases e <;> first | rfl | skip
  rename_i k
  have : k ≠ id := fun h => he (by rw [h])
  simp [this]
theorem X.block_out {id : Nat} {c : Code} (h : X E f c s (.exit id) s') : X E f (.block id c) s .norm s' := by
  obtain ⟨n, hn⟩ := h
  exact ⟨n, by simp only [exec, hn, if_true]⟩
theorem iter_more {body : St → Option (Ex × St)} : ∀ (n k : Nat) (s : St) (x : Ex × St), n ≤ k → iter body n s = some x → iter body k s = some x :=
  fun n k s x h hx => iter_le (fun s x hx => hx) n k s x h hx
theorem X.loop {c : Code} (h : X E f c s .norm s1) (h' : X E f (.loop c) s1 e s') : X E f (.loop c) s e s' := by
  obtain ⟨n, hn⟩ := h
  obtain ⟨k, hk⟩ := h'
  refine ⟨max n k + 1, ?_⟩
  have h1 := X.lift (show n ≤ max n k + 1 by omega) hn
  have h2 := X.lift (show k ≤ max n k by omega) hk
  simp only [exec] at h2 ⊢
  unfold iter
  rw [h1]
  exact iter_le (fun s x hx => X.lift (show max n k ≤ max n k + 1 by omega) hx) _ _ _ _ (Nat.le_refl _) h2
theorem X.loop_out {c : Code} (h : X E f c s e s') (he : e ≠ .norm) : X E f (.loop c) s e s' := by
  obtain ⟨n, hn⟩ := h
  refine ⟨n + 1, ?_⟩
  have h1 := X.lift (show n ≤ n + 1 by omega) hn
  simp only [exec]
  unfold iter
  rw [h1]
  cases e <;> first | exact absurd rfl he | rfl

theorem XS.nil {ops : Array Oper} : XS E f ops [] s .norm s := ⟨0, rfl⟩
theorem XS.cons {ops : Array Oper} {o : Oper} {rest : List Oper} (h : XO E f ops o s .norm s1) (h' : XS E f ops rest s1 e s') : XS E f ops (o :: rest) s e s' := by
  obtain ⟨n, hn⟩ := h
  obtain ⟨k, hk⟩ := h'
  refine ⟨max n k, ?_⟩
  unfold opSteps
  rw [opStep_le (callN_le (Nat.le_max_left n k)) hn]
  exact opSteps_le (callN_le (Nat.le_max_right n k)) _ _ _ hk
theorem XS.out {ops : Array Oper} {o : Oper} {rest : List Oper} (h : XO E f ops o s e s') (he : e ≠ .norm) : XS E f ops (o :: rest) s e s' := by
  obtain ⟨n, hn⟩ := h
  refine ⟨n, ?_⟩
  unfold opSteps
  rw [hn]
  cases e <;> first | exact absurd rfl he | rfl
theorem X.region {id : Nat} {ops : Array Oper} (h : XS E f ops ops.toList s e s') : X E f (.region id ops false) s e s' := by
  obtain ⟨n, hn⟩ := h
  exact ⟨n, by simp only [exec]; exact hn⟩
theorem XT.nil {ops : Array Oper} : XT E f ops [] s [s] := ⟨0, rfl⟩
theorem XT.cons {ops : Array Oper} {o : Oper} {rest : List Oper} {l : List St} (h : XO E f ops o s .norm s1) (h' : XT E f ops rest s1 l) : XT E f ops (o :: rest) s (s :: l) := by
  obtain ⟨n, hn⟩ := h
  obtain ⟨k, hk⟩ := h'
  refine ⟨max n k, ?_⟩
  unfold runT
  rw [opStep_le (callN_le (Nat.le_max_left n k)) hn]
  simp only [runT_le (callN_le (Nat.le_max_right n k)) _ _ _ hk]
theorem X.draw {id : Nat} {ops : Array Oper} {l : List St} (hk : E.A.skip f = false) (h : XT E f ops ops.toList s l) (hd : dynOK E f id ops l = true) : X E f (.region id ops true) s .norm (l.getD ops.size default) := by
  obtain ⟨n, hn⟩ := h
  refine ⟨n, ?_⟩
  simp only [exec, drawE, hk, hn, hd, if_true, Bool.false_eq_true, if_false]

/-! One operation. -/
theorem XO.val {ops : Array Oper} {o : Oper} {v : PV} {m : Mem} (hw : wantedP ops s.r o = some true) (h : gop E.P E.A f (geval E.G s.r) o s.m = some (.val v m)) : XO E f ops o s .norm ⟨putD s.r o.dst v, m, s.d⟩ :=
  ⟨0, by simp only [opStep, hw, h]⟩
theorem XO.not {ops : Array Oper} {o : Oper} (hw : wantedP ops s.r o = some false) : XO E f ops o s .norm ⟨putD s.r o.dst (.tup []), s.m, s.d⟩ :=
  ⟨0, by simp only [opStep, hw]⟩
theorem XO.call {ops : Array Oper} {o : Oper} {g : FuncId} {as : List PV} {v : PV} {m : Mem} (hw : wantedP ops s.r o = some true) (h : gop E.P E.A f (geval E.G s.r) o s.m = some (.enter g as)) (hc : Call E g as s.m (.ret v) m) :
    XO E f ops o s .norm ⟨putD s.r o.dst v, m, s.d⟩ := by
  obtain ⟨n, hn⟩ := hc
  exact ⟨n, by simp only [opStep, hw, h, hn]⟩
theorem XO.step {ops : Array Oper} {o : Oper} {n : Nat} (h : opStep E (callN E n) f ops o s = some (e, s')) : XO E f ops o s e s' := ⟨n, h⟩

/-! A call. -/
theorem Call.step {g : FuncId} {as : List PV} {m m' : Mem} {r : CRes} {n : Nat} (h : callN E n g as m = some (r, m')) : Call E g as m r m' := ⟨n, h⟩
theorem reach_nil (m : Mem) : ∀ n, reach m n [] [] = []
  | 0 => rfl
  | n + 1 => rfl
/-- Arguments and results without references. -/
theorem Call.pure {g : FuncId} {as : List PV} {m m' : Mem} {r : CRes} (h : Runs E g as [] r m') (ha : refsL as = []) (hr : refs r.pv = []) : Call E g as m r m := by
  obtain ⟨n, hn⟩ := h
  refine ⟨n, ?_⟩
  unfold callN iso
  simp only [ha, reach_nil, closedB, List.all_nil, Bool.and_self, if_true, List.map_nil, renL_nil _ _ ha, hn, List.length_nil, List.range_zero, hr, List.append_nil, List.filter_nil, Nat.zero_le, decide_true]
  have hrr : r.map (ren fun b => if b < 0 then [].getD b 0 else m.length + List.idxOf b []) = r := by
    cases r <;> simp only [CRes.map, CRes.pv] at hr ⊢ <;> rw [ren_nil _ _ hr]
  rw [hrr]
  congr 2
  refine List.ext_getElem? fun i => ?_
  rcases Nat.lt_or_ge i m.length with hi | hi
  · simp [hi]
  · simp [hi]

/-- A function out of its code. -/
theorem Runs.code {g : FuncId} {fn : Func} {c : Code} {as : List PV} {m : Mem} {e : Ex} {l : List PV} {v : PV} (hp : E.prim g = none) (hf : E.P.funcs[g]? = some fn) (hb : fn.body = some c)
    (h : X E g c ⟨as ++ List.replicate (fn.ntmps - as.length) .dead, m, []⟩ e s') (he : e = .norm ∨ e = .ret) (hd : s'.d = []) (hr : resP E.P s' fn.results.toList = some l)
    (hk : E.A.keep g = false) (hv : frz s'.m m.length (packP l) = some v) : Runs E g as m (.ret v) (killed m.length s'.m (packP l)) := by
  obtain ⟨n, hn⟩ := h
  refine ⟨n + 1, ?_⟩
  simp only [run]
  unfold ev
  simp only [hp, hf, hb]
  rcases he with rfl | rfl
  · have hn' : exec E (fun g as m => iso (ev E (drawE E) n g) as m) (drawE E fun g as m => iso (ev E (drawE E) n g) as m) n g c ⟨as ++ List.replicate (fn.ntmps - as.length) .dead, m, []⟩ = some (.norm, s') := hn
    try dsimp only
    rw [hn']
    have hr' : resP E.P ⟨s'.r, s'.m, []⟩ fn.results.toList = some l := by rw [← hd]; exact hr
    simp only [hd, leaveP, hr', hk, hv, Bool.false_eq_true, if_false]
  · have hn' : exec E (fun g as m => iso (ev E (drawE E) n g) as m) (drawE E fun g as m => iso (ev E (drawE E) n g) as m) n g c ⟨as ++ List.replicate (fn.ntmps - as.length) .dead, m, []⟩ = some (.ret, s') := hn
    try dsimp only
    rw [hn']
    have hr' : resP E.P ⟨s'.r, s'.m, []⟩ fn.results.toList = some l := by rw [← hd]; exact hr
    simp only [hd, leaveP, hr', hk, hv, Bool.false_eq_true, if_false]
theorem Runs.code_keep {g : FuncId} {fn : Func} {c : Code} {as : List PV} {m : Mem} {e : Ex} {l : List PV} (hp : E.prim g = none) (hf : E.P.funcs[g]? = some fn) (hb : fn.body = some c)
    (h : X E g c ⟨as ++ List.replicate (fn.ntmps - as.length) .dead, m, []⟩ e s') (he : e = .norm ∨ e = .ret) (hd : s'.d = []) (hr : resP E.P s' fn.results.toList = some l)
    (hk : E.A.keep g = true) : Runs E g as m (.ret (packP l)) s'.m := by
  obtain ⟨n, hn⟩ := h
  refine ⟨n + 1, ?_⟩
  simp only [run]
  unfold ev
  simp only [hp, hf, hb]
  rcases he with rfl | rfl
  · have hn' : exec E (fun g as m => iso (ev E (drawE E) n g) as m) (drawE E fun g as m => iso (ev E (drawE E) n g) as m) n g c ⟨as ++ List.replicate (fn.ntmps - as.length) .dead, m, []⟩ = some (.norm, s') := hn
    try dsimp only
    rw [hn']
    have hr' : resP E.P ⟨s'.r, s'.m, []⟩ fn.results.toList = some l := by rw [← hd]; exact hr
    simp only [hd, leaveP, hr', hk, if_true]
  · have hn' : exec E (fun g as m => iso (ev E (drawE E) n g) as m) (drawE E fun g as m => iso (ev E (drawE E) n g) as m) n g c ⟨as ++ List.replicate (fn.ntmps - as.length) .dead, m, []⟩ = some (.ret, s') := hn
    try dsimp only
    rw [hn']
    have hr' : resP E.P ⟨s'.r, s'.m, []⟩ fn.results.toList = some l := by rw [← hd]; exact hr
    simp only [hd, leaveP, hr', hk, if_true]
end
/-! The two halves of a call: what the callee is handed, and what the caller gets back. -/
def isoIn (args : List PV) (m : Mem) : Option (List Nat × List PV × Mem) :=
  let roots := refsL args
  let L := reach m 1000 roots []
  if closedB m L roots then
    let pos := fun b => L.idxOf b
    some (L, renL pos args, L.map fun b => bren pos (m.getD b .gone))
  else none
def isoBack (m : Mem) (L : List Nat) (y : CRes × Mem) : Option (CRes × Mem) :=
  let k := L.length
  let roots' := List.range k ++ refs y.1.pv
  let K := (reach y.2 1000 roots' []).filter fun b => decide (k ≤ b)
  if closedB y.2 (List.range k ++ K) roots' && decide (k ≤ y.2.length) then
    let back := fun b => if b < k then L.getD b 0 else m.length + K.idxOf b
    let m1 := (List.range m.length).map fun b => if L.contains b then bren back (y.2.getD (L.idxOf b) .gone) else m.getD b .gone
    some (y.1.map (ren back), m1 ++ K.map fun b => bren back (y.2.getD b .gone))
  else none
theorem iso_of {callee : List PV → Mem → Option (CRes × Mem)} {args as' : List PV} {m m1 : Mem} {L : List Nat} {y x : CRes × Mem} (h1 : isoIn args m = some (L, as', m1)) (h : callee as' m1 = some y) (h2 : isoBack m L y = some x) : iso callee args m = some x := by
  unfold isoIn at h1
  simp only at h1
  split at h1
  · rename_i hc
    simp only [Option.some.injEq, Prod.mk.injEq] at h1
    obtain ⟨rfl, rfl, rfl⟩ := h1
    unfold iso
    simp only [hc, if_true, h]
    exact h2
  · simp at h1
/-- The bodies of a piece of code's loops, in the order of the text. -/
def loops : Code → List Code
  | .seq a b | .cond _ a b => loops a ++ loops b
  | .block _ c | .scope c => loops c
  | .loop c => c :: loops c
  | _ => []
/-- How code is run, but for its loops. -/
theorem execE {E : Env} {call : FuncId → List PV → Mem → Option (CRes × Mem)} {draw : FuncId → Nat → Array Oper → St → Option (Ex × St)} {n : Nat} {f : FuncId} : (∀ s, exec E call draw n f .skip s = some (.norm, s)) ∧
    (∀ id ops s, exec E call draw n f (.region id ops false) s = opSteps E call f ops ops.toList s) ∧ (∀ id ops s, exec E call draw n f (.region id ops true) s = draw f id ops s) ∧
    (∀ a b s, exec E call draw n f (.seq a b) s = match exec E call draw n f a s with | some (.norm, s') => exec E call draw n f b s' | r => r) ∧
    (∀ c a b s, exec E call draw n f (.cond c a b) s = match geval E.G s.r c with | .bool true => exec E call draw n f a s | .bool false => exec E call draw n f b s | _ => none) ∧
    (∀ id c s, exec E call draw n f (.block id c) s = match exec E call draw n f c s with | some (.exit k, s') => if k = id then some (.norm, s') else some (.exit k, s') | r => r) ∧
    (∀ id s, exec E call draw n f (.exit id) s = some (.exit id, s)) ∧ (∀ s, exec E call draw n f .ret s = some (.ret, s)) := by
  refine ⟨?_, ?_, ?_, ?_, ?_, ?_, ?_, ?_⟩ <;> intros <;> simp only [exec] <;> rfl
theorem execLoop {E : Env} {call : FuncId → List PV → Mem → Option (CRes × Mem)} {draw : FuncId → Nat → Array Oper → St → Option (Ex × St)} {n : Nat} {f : FuncId} {c : Code} {s : St} : exec E call draw n f (.loop c) s = iter (exec E call draw n f c) n s := by simp only [exec]
/-- What a function hands back, out of how its code ended. -/
def fin (E : Env) (n : Nat) (f : FuncId) (fn : Func) (k : Nat) (x : Option (Ex × St)) : Option (CRes × Mem) :=
  let callD := fun h u as m => if refs (rcP u) = [] then iso (evD E (drawE E (callN E n)) (callN E n) n h u) as m else none
  let out := fun (u : RC) (s : St) => match leaveP callD s.d u s.m with
    | some (.ret, m1) => match resP E.P ⟨s.r, m1, []⟩ fn.results.toList with
      | none => none
      | some l =>
        if E.A.keep f then some (.ret (packP l), m1)
        else match frz m1 k (packP l) with
          | some v => some (.ret v, killed k m1 (packP l))
          | none => none
    | some (.pan v, m1) => some (.panic v, m1)
    | _ => none
  match x with
  | some (.norm, s) | some (.ret, s) => out .ret s
  | some (.panic v, s) => out (.pan v) s
  | _ => none
/-- One step of a run. -/
theorem runS {E : Env} {n : Nat} {f : FuncId} {args : List PV} {m : Mem} {fn : Func} {c : Code} (hp : E.prim f = none) (hf : E.P.funcs[f]? = some fn) (hb : fn.body = some c) :
    run E (n + 1) f args m = fin E n f fn m.length (exec E (callN E n) (drawE E (callN E n)) n f c ⟨args ++ List.replicate (fn.ntmps - args.length) .dead, m, []⟩) := by
  rw [run, ev]
  simp only [hp, hf, hb]
  rfl
theorem finE {E : Env} {n : Nat} {f : FuncId} {fn : Func} {k : Nat} :
    (∀ r m, fin E n f fn k (some (.norm, ⟨r, m, []⟩)) = match resP E.P ⟨r, m, []⟩ fn.results.toList with | none => none | some l => if E.A.keep f then some (.ret (packP l), m) else match frz m k (packP l) with | some v => some (.ret v, killed k m (packP l)) | none => none) ∧
    (∀ r m, fin E n f fn k (some (.ret, ⟨r, m, []⟩)) = match resP E.P ⟨r, m, []⟩ fn.results.toList with | none => none | some l => if E.A.keep f then some (.ret (packP l), m) else match frz m k (packP l) with | some v => some (.ret v, killed k m (packP l)) | none => none) ∧
    (∀ r m v, fin E n f fn k (some (.panic v, ⟨r, m, []⟩)) = some (.panic v, m)) :=
  ⟨fun _ _ => rfl, fun _ _ => rfl, fun _ _ _ => rfl⟩
/-- A call without references: memory stays. -/
theorem callN_pure {E : Env} {n : Nat} {g : FuncId} {as : List PV} {m : Mem} {r : CRes} (h : (run E n g as []).map Prod.fst = some r) (ha : refsL as = []) (hr : refs r.pv = []) : callN E n g as m = some (r, m) := by
  obtain ⟨⟨r', m'⟩, hn, he⟩ := Option.map_eq_some_iff.1 h
  simp only at he
  subst he
  unfold callN iso
  simp only [ha, reach_nil, closedB, List.all_nil, Bool.and_self, if_true, List.map_nil, renL_nil _ _ ha, hn, List.length_nil, List.range_zero, hr, List.append_nil, List.filter_nil, Nat.zero_le, decide_true]
  have hrr : r'.map (ren fun b => if b < 0 then [].getD b 0 else m.length + List.idxOf b []) = r' := by
    cases r' <;> simp only [CRes.map, CRes.pv] at hr ⊢ <;> rw [ren_nil _ _ hr]
  rw [hrr]
  congr 2
  refine List.ext_getElem? fun i => ?_
  rcases Nat.lt_or_ge i m.length with hi | hi
  · simp [hi]
  · simp [hi]
end Go.Gm
