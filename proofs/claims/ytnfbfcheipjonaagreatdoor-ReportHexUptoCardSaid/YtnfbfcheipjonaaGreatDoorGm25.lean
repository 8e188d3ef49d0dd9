/- The ghost machine, part 25: drawn regions: the order of the text, and what is to be looked at so that every order gives the same. -/
import Derived.Test.YtnfbfcheipjonaaGreatDoorGm24
set_option linter.unusedSimpArgs false
set_option linter.unusedVariables false
namespace Go.Gm

def dstAt (ops : Array Oper) (j : Nat) : Option Tmp := (ops[j]?).bind (·.dst)
def mixR (ops : Array Oper) (S : Nat → Bool) (r0 rn : List PV) : List PV :=
  (List.range r0.length).map fun t => if (List.range ops.size).any fun j => S j && dstAt ops j == some t then get rn t else get r0 t
def effO (A : Ann) (f : FuncId) (ops : Array Oper) (j : Nat) : Bool :=
  match ops[j]? with
  | some o => !pureO A f o
  | none => false
def edgesOf (o : Oper) : List Nat := (o.after.toList.filter (Region.binds .any)).map (·.on)
def maskOf (masks : List Nat) (o : Oper) : Nat := (edgesOf o).foldl (fun acc j => acc ||| (2 ^ j ||| masks.getD j 0)) 0
def masksOf : List Oper → List Nat → List Nat
  | [], acc => acc
  | o :: r, acc => masksOf r (acc ++ [maskOf acc o])

/-- At moment x operation i may be drawn. -/
def condM (A : Ann) (f : FuncId) (ops : Array Oper) (ms : List Nat) (x i : Nat) : Bool :=
  (List.range ops.size).all fun e => !effO A f ops e || (if x ≤ e then !(ms.getD i 0).testBit e else !(ms.getD e 0).testBit i)
def nextM (A : Ann) (f : FuncId) (ops : Array Oper) (x i : Nat) : Bool :=
  i ≤ x && (List.range ops.size).all fun e => !(effO A f ops e && i ≤ e && decide (e < x))
def pairOK (A : Ann) (f : FuncId) (ops : Array Oper) (ms : List Nat) (i j : Nat) (o q : Oper) : Bool :=
  (match q.dst with
    | some d => (i == j || o.dst != some d) && (!(o.looksAt ops).contains d || (ms.getD i 0).testBit j || (ms.getD j 0).testBit i)
    | none => true) && (!(effO A f ops i && effO A f ops j && decide (j < i)) || (ms.getD i 0).testBit j)
def floOf (A : Ann) (f : FuncId) (id i : Nat) : List Nat := ((A.flo f id).lookup i).getD []
def oneOK (A : Ann) (f : FuncId) (id : Nat) (ops : Array Oper) (ms : List Nat) (i : Nat) (o : Oper) : Bool :=
  ms.getD i 0 == maskOf ms o && (edgesOf o).all (fun j => decide (j < i)) &&
  (List.range ops.size).all (fun j => match ops[j]? with | some q => pairOK A f ops ms i j o q | none => true) &&
  (effO A f ops i || indepO A f o ||
    (List.range (ops.size + 1)).all fun x => !(x == ops.size || effO A f ops x) || !condM A f ops ms x i || nextM A f ops x i || (floOf A f id i).contains x)
def isDefer (o : Oper) : Bool :=
  match o.op with
  | .defer _ => true
  | _ => false
theorem deferP_none {ρ : Operand → PV} {o : Oper} (h : isDefer o = false) : deferP ρ o = none := by
  unfold isDefer at h; unfold deferP; split at h <;> simp_all
def statOK (A : Ann) (f : FuncId) (id : Nat) (ops : Array Oper) : Bool :=
  let ms := masksOf ops.toList []
  (List.range ops.size).all fun i => match ops[i]? with
    | some o => !isDefer o && oneOK A f id ops ms i o
    | none => true

def runT (E : Env) (call : FuncId → List PV → Mem → Option (CRes × Mem)) (f : FuncId) (ops : Array Oper) : List Oper → St → Option (List St)
  | [], s => some [s]
  | o :: rest, s => match opStep E call f ops o s with
    | some (.norm, s') => match runT E call f ops rest s' with
      | some l => some (s :: l)
      | none => none
    | _ => none
def dyn1 (E : Env) (f : FuncId) (o : Oper) (r rn : List PV) (m : Mem) : Bool :=
  match gop E.P E.A f (geval E.G r) o m with
  | some (.val v _) => match o.dst with
    | some d => same v (get rn d)
    | none => true
  | _ => false
def dynOK (E : Env) (f : FuncId) (id : Nat) (ops : Array Oper) (sts : List St) : Bool :=
  (E.A.flo f id).all fun (i, xs) => match ops[i]? with
    | none => true
    | some o => match wantedP ops (sts.getD i default).r o with
      | some true => xs.all fun x => dyn1 E f o (sts.getD i default).r (sts.getD (i + 1) default).r (sts.getD x default).m
      | _ => true
/-- How far the text's order comes, if an operation panics: the states ahead of it, what it panics with, and the memory behind it. -/
def runP (E : Env) (call : FuncId → List PV → Mem → Option (CRes × Mem)) (f : FuncId) (ops : Array Oper) : List Oper → St → Option (List St × PV × Mem)
  | [], _ => none
  | o :: rest, s => match opStep E call f ops o s with
    | some (.norm, s') => match runP E call f ops rest s' with
      | some (l, x) => some (s :: l, x)
      | none => none
    | some (.panic v, s') => some ([s], v, s'.m)
    | _ => none
def dynOKN (E : Env) (f : FuncId) (id : Nat) (ops : Array Oper) (N : Nat) (sts : List St) : Bool :=
  (E.A.flo f id).all fun (i, xs) => decide (N ≤ i) || match ops[i]? with
    | none => true
    | some o => match wantedP ops (sts.getD i default).r o with
      | some true => xs.all fun x => decide (N < x) || dyn1 E f o (sts.getD i default).r (sts.getD (i + 1) default).r (sts.getD x default).m
      | _ => true
/-- Of the registers, those that are known whatever was drawn ahead of the operation p. -/
def weakR (ops : Array Oper) (ms : List Nat) (p : Nat) (r : List PV) : List PV :=
  (List.range r.length).map fun t => if (List.range p).any (fun j => dstAt ops j == some t && !(ms.getD p 0).testBit j) then .dead else get r t
/-- A drawn region in which an operation panics. -/
def drawP (E : Env) (call : FuncId → List PV → Mem → Option (CRes × Mem)) (f : FuncId) (id : Nat) (ops : Array Oper) (s : St) : Option (Ex × St) :=
  match runP E call f ops ops.toList s with
  | none => none
  | some (sts, v, m) =>
    let p := sts.length - 1
    let ms := masksOf ops.toList []
    if effO E.A f ops p && (List.range ops.size).all (fun j => decide (j ≤ p) || (ms.getD j 0).testBit p) && dynOKN E f id ops p sts
    then some (.panic v, ⟨weakR ops ms p (sts.getD p default).r, m, s.d⟩) else none
def drawE (E : Env) (call : FuncId → List PV → Mem → Option (CRes × Mem)) (f : FuncId) (id : Nat) (ops : Array Oper) (s : St) : Option (Ex × St) :=
  if E.A.skip f then none else
  match runT E call f ops ops.toList s with
  | none => drawP E call f id ops s
  | some sts => if dynOK E f id ops sts then some (.norm, sts.getD ops.size default) else none

section
variable {E : Env} {call : FuncId → List PV → Mem → Option (CRes × Mem)} {f : FuncId} {id : Nat} {ops : Array Oper} {s : St} {sts : List St}

theorem runT_spec : ∀ (l : List Oper) (s : St) (sts : List St), runT E call f ops l s = some sts →
    sts.length = l.length + 1 ∧ sts.getD 0 default = s ∧ ∀ (i : Nat) (o : Oper), l[i]? = some o → opStep E call f ops o (sts.getD i default) = some (.norm, sts.getD (i + 1) default)
  | [], s, sts, h => by
    simp only [runT, Option.some.injEq] at h
    subst h
    exact ⟨rfl, rfl, fun i o ho => by simp at ho⟩
  | o :: rest, s, sts, h => by
    unfold runT at h
    split at h
    · rename_i s' hs
      split at h
      · rename_i l hl
        simp only [Option.some.injEq] at h
        subst h
        obtain ⟨h1, h2, h3⟩ := runT_spec rest s' l hl
        refine ⟨by simp [h1], rfl, fun i o' ho => ?_⟩
        match i with
        | 0 =>
          simp at ho
          subst ho
          have : (s :: l).getD (0 + 1) default = s' := by rw [← h2]; rfl
          rw [this]
          exact hs
        | i + 1 => exact h3 i o' (by simpa using ho)
      · simp at h
    · simp at h

theorem runP_spec : ∀ (l : List Oper) (s : St) (sts : List St) (v : PV) (m : Mem), runP E call f ops l s = some (sts, v, m) →
    ∃ p, p < l.length ∧ sts.length = p + 1 ∧ sts.getD 0 default = s ∧ (∀ (i : Nat) (o : Oper), i < p → l[i]? = some o → opStep E call f ops o (sts.getD i default) = some (.norm, sts.getD (i + 1) default)) ∧
      ∃ o s', l[p]? = some o ∧ opStep E call f ops o (sts.getD p default) = some (.panic v, s') ∧ s'.m = m
  | [], s, sts, v, m, h => by simp [runP] at h
  | o :: rest, s, sts, v, m, h => by
    unfold runP at h
    split at h
    · rename_i s' hs
      split at h
      · rename_i l x hl
        simp only [Option.some.injEq, Prod.mk.injEq] at h
        obtain ⟨rfl, rfl⟩ := h
        obtain ⟨p, h1, h2, h3, h4, o', s2, h5, h6, h7⟩ := runP_spec rest s' l v m hl
        refine ⟨p + 1, by simpa using h1, by simp [h2], rfl, fun i o2 hi ho => ?_, o', s2, by simpa using h5, h6, h7⟩
        match i with
        | 0 =>
          simp at ho
          subst ho
          have : (s :: l).getD (0 + 1) default = s' := by rw [← h3]; rfl
          rw [this]
          exact hs
        | i + 1 => exact h4 i o2 (by omega) (by simpa using ho)
      · simp at h
    · rename_i u s' hs
      simp only [Option.some.injEq, Prod.mk.injEq] at h
      obtain ⟨rfl, rfl, rfl⟩ := h
      exact ⟨0, by simp, rfl, rfl, fun i o2 hi => by omega, o, s', rfl, hs, rfl⟩
    · simp at h

/-- One step of the text's order. -/
structure Text (E : Env) (call : FuncId → List PV → Mem → Option (CRes × Mem)) (f : FuncId) (ops : Array Oper) (N : Nat) (st : Nat → St) : Prop where
  le : N ≤ ops.size
  step : ∀ (i : Nat) (o : Oper), i < N → ops[i]? = some o → opStep E call f ops o (st i) = some (.norm, st (i + 1))

theorem opStep_regs {o : Oper} {s s' : St} (h : opStep E call f ops o s = some (.norm, s')) : ∃ v, s'.r = putD s.r o.dst v := by
  unfold opStep at h
  split at h
  · simp at h
  · simp only [Option.some.injEq, Prod.mk.injEq, true_and] at h; subst h; exact ⟨_, rfl⟩
  · split at h
    · split at h
      · simp only [Option.some.injEq, Prod.mk.injEq, true_and] at h; subst h; exact ⟨_, rfl⟩
      · simp at h
    · simp only [Option.some.injEq, Prod.mk.injEq, true_and] at h; subst h; exact ⟨_, rfl⟩
    · simp at h
    · split at h
      · simp at h
      · simp only [Option.some.injEq, Prod.mk.injEq, true_and] at h; subst h; exact ⟨_, rfl⟩
      · simp at h

theorem get_getD : ∀ (r : List PV) (t : Nat), get r t = r.getD t .dead
  | [], t => by simp [Gm.get]
  | x :: r, 0 => rfl
  | x :: r, t + 1 => by simp [Gm.get, get_getD r t]
theorem put_set (p : PV) : ∀ (r : List PV) (t : Nat), put r t p = r.set t p
  | [], t => by simp [Gm.put]
  | x :: r, 0 => rfl
  | x :: r, t + 1 => by simp [Gm.put, put_set p r t]
theorem putD_len (r : List PV) (d : Option Nat) (v : PV) : (putD r d v).length = r.length := by
  cases d <;> simp [putD, put_set]
theorem get_putD_ne {r : List PV} {d : Option Nat} {v : PV} {t : Nat} (h : d ≠ some t) : get (putD r d v) t = get r t := by
  cases d with
  | none => rfl
  | some d =>
    have hne : d ≠ t := fun e => h (by rw [e])
    simp only [putD, put_set, get_getD, List.getD_eq_getElem?_getD]
    rw [List.getElem?_set_ne hne]
theorem get_putD_eq {r : List PV} {v : PV} {t : Nat} (h : t < r.length) : get (putD r (some t) v) t = v := by
  simp [putD, put_set, get_getD, h]
theorem regs_ext {r r' : List PV} (h : r.length = r'.length) (hg : ∀ t, t < r.length → get r t = get r' t) : r = r' := by
  refine List.ext_getElem h fun t h1 h2 => ?_
  have := hg t h1
  simpa [get_getD, h1, h2] using this

section
variable {N : Nat} {st : Nat → St} (T : Text E call f ops N st)
include T
theorem Text.len (n : Nat) (hn : n ≤ N) : (st n).r.length = (st 0).r.length := by
  induction n with
  | zero => rfl
  | succ n ih =>
    have := T.le
    obtain ⟨v, hv⟩ := opStep_regs (T.step n ops[n] (by omega) (Array.getElem?_eq_getElem (by omega)))
    rw [hv, putD_len, ih (by omega)]
theorem Text.keep {t a : Nat} (k : Nat) (hk : a + k ≤ N) (h : ∀ j, a ≤ j → j < a + k → dstAt ops j ≠ some t) : get (st (a + k)).r t = get (st a).r t := by
  induction k with
  | zero => rfl
  | succ k ih =>
    have := T.le
    obtain ⟨v, hv⟩ := opStep_regs (T.step (a + k) ops[a + k] (by omega) (Array.getElem?_eq_getElem (by omega)))
    have hd := h (a + k) (by omega) (by omega)
    rw [show a + (k + 1) = a + k + 1 by omega, hv, get_putD_ne]
    · exact ih (by omega) (fun j h1 h2 => h j h1 (by omega))
    · intro e
      apply hd
      have hlt : a + k < ops.size := by omega
      simp [dstAt, hlt, e]
theorem Text.keep' {t a b : Nat} (hab : a ≤ b) (hb : b ≤ N) (h : ∀ j, a ≤ j → j < b → dstAt ops j ≠ some t) : get (st b).r t = get (st a).r t := by
  have := T.keep (t := t) (a := a) (b - a) (by omega) (fun j h1 h2 => h j h1 (by omega))
  rwa [show a + (b - a) = b by omega] at this
theorem Text.mem1 {i : Nat} {o : Oper} (hi : i < N) (ho : ops[i]? = some o) (hp : pureO E.A f o = true) : (st (i + 1)).m = (st i).m := by
  have h := T.step i o hi ho
  unfold opStep at h
  split at h
  · simp at h
  · simp only [Option.some.injEq, Prod.mk.injEq, true_and] at h; rw [← h]
  · split at h
    · split at h
      · simp only [Option.some.injEq, Prod.mk.injEq, true_and] at h; rw [← h]
      · simp at h
    · rename_i v m hg
      simp only [Option.some.injEq, Prod.mk.injEq, true_and] at h
      obtain ⟨u, hu⟩ := pure_mem hp hg
      simp only [Out.val.injEq] at hu
      rw [← h, hu.2]
    · simp at h
    · rename_i hg
      obtain ⟨u, hu⟩ := pure_mem hp hg
      simp at hu
theorem Text.mem {a b : Nat} (hab : a ≤ b) (hb : b ≤ N) (h : ∀ j, a ≤ j → j < b → effO E.A f ops j = false) : (st b).m = (st a).m := by
  obtain ⟨k, rfl⟩ : ∃ k, b = a + k := ⟨b - a, by omega⟩
  induction k with
  | zero => rfl
  | succ k ih =>
    have := T.le
    have hlt : a + k < ops.size := by omega
    have ho := Array.getElem?_eq_getElem hlt
    have hp : pureO E.A f ops[a + k] = true := by
      have := h (a + k) (by omega) (by omega)
      simpa [effO, ho] using this
    rw [show a + (k + 1) = a + k + 1 by omega, T.mem1 (by omega) ho hp]
    exact ih (by omega) (by omega) (fun j h1 h2 => h j h1 (by omega))
end
end
end Go.Gm
