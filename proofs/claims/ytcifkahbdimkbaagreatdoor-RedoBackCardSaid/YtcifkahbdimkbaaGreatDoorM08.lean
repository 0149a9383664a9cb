/- Part 8 of the ground under the rows: The run of a drawn region in the order of the text, and what waits for what. -/
import Derived.Test.YtcifkahbdimkbaaGreatDoorM07
import Derived.Orders
set_option linter.unusedSimpArgs false
set_option linter.unusedVariables false
-- VmKb: The run of a drawn region in the order of the text, and what waits for what.
namespace Go.Vm
open Go Go.RowKit

/-! ### what waits -/
def beforeStep (acc : Array Nat) (o : Oper) : Nat := o.after.foldl (fun s e => if Region.binds .any e then s ||| 2 ^ e.on ||| acc.getD e.on 0 else s) 0

theorem before_eq (ops : Array Oper) : Region.before ops = ops.toList.foldl (fun acc o => acc.push (beforeStep acc o)) #[] := by
  unfold Region.before
  rw [← Array.foldl_toList]
  rfl

theorem before_fold : ∀ (L : List Oper) (acc : Array Nat), let R := L.foldl (fun acc o => acc.push (beforeStep acc o)) acc
    (∀ i, i < acc.size → R.getD i 0 = acc.getD i 0) ∧ ∀ j o, L[j]? = some o → ∃ accj : Array Nat, accj.size = acc.size + j ∧ (∀ i, i < accj.size → accj.getD i 0 = R.getD i 0) ∧ R.getD (acc.size + j) 0 = beforeStep accj o
  | [], acc => ⟨fun _ _ => rfl, fun j o h => by simp at h⟩
  | o :: L, acc => by
    obtain ⟨h1, h2⟩ := before_fold L (acc.push (beforeStep acc o))
    simp only [List.foldl_cons]
    generalize hR : L.foldl (fun acc o => acc.push (beforeStep acc o)) (acc.push (beforeStep acc o)) = R at h1 h2 ⊢
    have hlt : ∀ i, i < acc.size → R.getD i 0 = acc.getD i 0 := fun i hi => by
      rw [h1 i (by simp; omega)]
      simp [Array.getElem?_push, Nat.ne_of_lt hi]
    refine ⟨hlt, fun j o' hj => ?_⟩
    cases j with
    | zero =>
      simp only [List.getElem?_cons_zero, Option.some.injEq] at hj
      subst hj
      refine ⟨acc, rfl, fun i hi => (hlt i hi).symm, ?_⟩
      rw [Nat.add_zero, h1 acc.size (by simp)]
      simp
    | succ j =>
      simp only [List.getElem?_cons_succ] at hj
      obtain ⟨accj, k1, k2, k3⟩ := h2 j o' hj
      refine ⟨accj, by rw [k1]; simp; omega, k2, ?_⟩
      rw [← k3]
      congr 1
      simp; omega

theorem fold_bits {acc : Array Nat} (q : Nat) : ∀ (L : List Edge) (s : Nat), (L.foldl (fun s e => if Region.binds .any e then s ||| 2 ^ e.on ||| acc.getD e.on 0 else s) s).testBit q = true ↔
    s.testBit q = true ∨ ∃ e ∈ L, Region.binds .any e = true ∧ (e.on = q ∨ (acc.getD e.on 0).testBit q = true)
  | [], s => by simp
  | e :: L, s => by
    rw [List.foldl_cons, fold_bits q L]
    by_cases hb : Region.binds .any e = true
    · simp only [hb, if_true, Nat.testBit_or, Nat.testBit_two_pow, Bool.or_eq_true, decide_eq_true_eq, List.mem_cons, exists_eq_or_imp, true_and]
      constructor
      · rintro ((((h | h) | h)) | h)
        · exact .inl h
        · exact .inr (.inl (.inl h))
        · exact .inr (.inl (.inr h))
        · exact .inr (.inr h)
      · rintro (h | (h | h) | h)
        · exact .inl (.inl (.inl h))
        · exact .inl (.inl (.inr h))
        · exact .inl (.inr h)
        · exact .inr h
    · have hb' : Region.binds .any e = false := by simpa using hb
      simp [hb']

theorem preOf_getD (ops : Array Oper) (j : Nat) : (preOf ops).getD j 0 = (Region.before ops).getD j 0 := by
  simp [preOf, List.getD, Array.getD_eq_getD_getElem?]

/-- What an operation waits for: an edge's end, or what that waits for. -/
theorem pre_spec {ops : Array Oper} {j : Nat} {o : Oper} (ho : ops[j]? = some o) (q : Nat) (hq : ((preOf ops).getD j 0).testBit q = true) :
    ∃ e ∈ o.after, Region.binds .any e = true ∧ (e.on = q ∨ ((preOf ops).getD e.on 0).testBit q = true) := by
  rw [preOf_getD, before_eq] at hq
  obtain ⟨h1, h2⟩ := before_fold ops.toList #[]
  obtain ⟨accj, k1, k2, k3⟩ := h2 j o (by simpa using ho)
  simp only [List.size_toArray, List.length_nil, Nat.zero_add] at k1 k3
  rw [k3] at hq
  unfold beforeStep at hq
  rw [← Array.foldl_toList, fold_bits] at hq
  rcases hq with hq | ⟨e, he, hb, hq⟩
  · simp at hq
  · refine ⟨e, by simpa using he, hb, hq.imp id fun h => ?_⟩
    by_cases hl : e.on < accj.size
    · rw [k2 _ hl, ← before_eq, ← preOf_getD] at h; exact h
    · simp [Array.getD_eq_getD_getElem?, Array.getElem?_eq_none (Nat.le_of_not_lt hl)] at h

theorem pre_edge {ops : Array Oper} {j : Nat} {o : Oper} (ho : ops[j]? = some o) {e : Edge} (he : e ∈ o.after) (hb : Region.binds .any e = true) : ((preOf ops).getD j 0).testBit e.on = true := by
  rw [preOf_getD, before_eq]
  obtain ⟨h1, h2⟩ := before_fold ops.toList #[]
  obtain ⟨accj, k1, k2, k3⟩ := h2 j o (by simpa using ho)
  simp only [List.size_toArray, List.length_nil, Nat.zero_add] at k1 k3
  rw [k3]
  unfold beforeStep
  rw [← Array.foldl_toList, fold_bits]
  exact .inr ⟨e, by simpa using he, hb, .inl rfl⟩

/-! ### the run in the order of the text -/
section
variable {cf : CF} {b : Nat} {pre : List Nat}

theorem runDraw_steps : ∀ (l : List VOper) (k : Nat) (s s' : DS), runDraw cf b pre k l s = some s' →
    ∃ S : Nat → DS, S k = s ∧ S (k + l.length) = s' ∧ ∀ j o, l[j]? = some o → drawStep cf b pre (k + j) o (S (k + j)) = some (S (k + j + 1))
  | [], k, s, s', h => by
    simp only [runDraw, Option.some.injEq] at h
    exact ⟨fun _ => s, rfl, h, fun j o hj => by simp at hj⟩
  | o :: l, k, s, s', h => by
    simp only [runDraw] at h
    obtain ⟨s1, h1, h2⟩ := obind h
    obtain ⟨S, k1, k2, k3⟩ := runDraw_steps l (k + 1) s1 s' h2
    refine ⟨fun i => if i = k then s else S i, by simp, ?_, fun j o' hj => ?_⟩
    · have : ¬ k + (o :: l).length = k := by simp
      simp only [this, if_false]
      rw [← k2]; congr 1; simp; omega
    · cases j with
      | zero =>
        simp only [List.getElem?_cons_zero, Option.some.injEq] at hj
        subst hj
        have : ¬ k + 0 + 1 = k := by omega
        simp only [Nat.add_zero, if_true, Nat.succ_ne_self, if_false]
        have e2 : S (k + 1) = s1 := k1
        rw [e2]; exact h1
      | succ j =>
        simp only [List.getElem?_cons_succ] at hj
        have h3 := k3 j o' hj
        have e1 : ¬ k + (j + 1) = k := by omega
        have e2 : ¬ k + (j + 1) + 1 = k := by omega
        simp only [e1, e2, if_false]
        have e3 : k + (j + 1) = k + 1 + j := by omega
        rw [e3]; exact h3

/-- The ways one operation goes. -/
inductive StepCase (cf : CF) (b : Nat) (pre : List Nat) (i : Nat) (o : VOper) (s s' : DS) : Prop where
  | dead (h : dead pre i s.pan = true) (h' : s' = { s with ov := .undef :: s.ov, vars := setv s.vars o.dst .undef })
  | skip (hw : wanted s.ov o.guard = some false) (h' : s' = { s with ov := .tup [] :: s.ov, vars := setv s.vars o.dst .undef })
  | pure (v : V) (hw : wanted s.ov o.guard = some true) (hp : pureOp (opd s.ov s.vars) o.op = some v) (h' : s' = { s with ov := v :: s.ov, vars := setv s.vars o.dst v })
  | read (v : V) (hw : wanted s.ov o.guard = some true) (hp : pureOp (opd s.ov s.vars) o.op = none) (hr : readOp s.m (opd s.ov s.vars) o.op = some v)
      (h' : s' = { s with ov := v :: s.ov, vars := setv s.vars o.dst v, reads := (i, rlv (opd s.ov s.vars) o.op) :: s.reads })
  | eff (v : V) (m' : Mem) (hw : wanted s.ov o.guard = some true) (he : isEff o.op = true) (hn : s.pan = none) (hr : opRun cf b s.m (opd s.ov s.vars) o.op = some (.val v m'))
      (h' : s' = { s with ov := v :: s.ov, vars := setv s.vars o.dst v, m := m', effs := (i, s.m, m') :: s.effs })
  | pan (v : V) (m' : Mem) (hw : wanted s.ov o.guard = some true) (he : isEff o.op = true) (hn : s.pan = none) (hr : opRun cf b s.m (opd s.ov s.vars) o.op = some (.pan v m'))
      (h' : s' = { s with ov := .undef :: s.ov, vars := setv s.vars o.dst .undef, m := m', pan := some (i, v), effs := (i, s.m, m') :: s.effs })

theorem drawStep_case {i : Nat} {o : VOper} {s s' : DS} (h : drawStep cf b pre i o s = some s') : StepCase cf b pre i o s s' := by
  unfold drawStep at h
  split at h
  · rename_i hd; cases h; exact .dead hd rfl
  · split at h
    · simp at h
    · rename_i hw; cases h; exact .skip hw rfl
    · rename_i hw
      split at h
      · rename_i v hp; cases h; exact .pure v hw hp rfl
      · rename_i hp
        split at h
        · rename_i v hr; cases h; exact .read v hw hp hr rfl
        · rename_i hr
          split at h
          · simp at h
          · rename_i hn
            split at h
            · rename_i v m' ho; cases h; exact .eff v m' hw (isEff_of hp hr ho) hn ho rfl
            · rename_i v m' ho; cases h; exact .pan v m' hw (isEff_of hp hr ho) hn ho rfl
            · simp at h

theorem StepCase.ov {i : Nat} {o : VOper} {s s' : DS} (h : StepCase cf b pre i o s s') : ∃ x y, s'.ov = x :: s.ov ∧ s'.vars = setv s.vars o.dst y ∧ (y = x ∨ y = .undef) := by
  cases h with
  | dead _ h' => subst h'; exact ⟨_, _, rfl, rfl, .inr rfl⟩
  | skip _ h' => subst h'; exact ⟨_, _, rfl, rfl, .inr rfl⟩
  | pure v _ _ h' => subst h'; exact ⟨_, _, rfl, rfl, .inl rfl⟩
  | read v _ _ _ h' => subst h'; exact ⟨_, _, rfl, rfl, .inl rfl⟩
  | eff v m' _ _ _ _ h' => subst h'; exact ⟨_, _, rfl, rfl, .inl rfl⟩
  | pan v m' _ _ _ _ h' => subst h'; exact ⟨_, _, rfl, rfl, .inl rfl⟩

theorem StepCase.quiet {i : Nat} {o : VOper} {s s' : DS} (h : StepCase cf b pre i o s s') (he : isEff o.op = false) : s'.m = s.m := by
  cases h with
  | dead _ h' => subst h'; rfl
  | skip _ h' => subst h'; rfl
  | pure v _ _ h' => subst h'; rfl
  | read v _ _ _ h' => subst h'; rfl
  | eff v m' _ e _ _ h' => rw [he] at e; cases e
  | pan v m' _ e _ _ h' => rw [he] at e; cases e

/-- Either memory stays, or the step is told among the effects. -/
theorem StepCase.mem {i : Nat} {o : VOper} {s s' : DS} (h : StepCase cf b pre i o s s') : s'.m = s.m ∨ (i, s.m, s'.m) ∈ s'.effs := by
  cases h with
  | dead _ h' => subst h'; exact .inl rfl
  | skip _ h' => subst h'; exact .inl rfl
  | pure v _ _ h' => subst h'; exact .inl rfl
  | read v _ _ _ h' => subst h'; exact .inl rfl
  | eff v m' _ e _ _ h' => subst h'; exact .inr (by simp)
  | pan v m' _ e _ _ h' => subst h'; exact .inr (by simp)

theorem StepCase.grow {i : Nat} {o : VOper} {s s' : DS} (h : StepCase cf b pre i o s s') : (∀ x ∈ s.reads, x ∈ s'.reads) ∧ (∀ x ∈ s.effs, x ∈ s'.effs) ∧ (∀ x, s.pan = some x → s'.pan = some x) := by
  cases h with
  | dead _ h' => subst h'; exact ⟨fun _ h => h, fun _ h => h, fun _ h => h⟩
  | skip _ h' => subst h'; exact ⟨fun _ h => h, fun _ h => h, fun _ h => h⟩
  | pure v _ _ h' => subst h'; exact ⟨fun _ h => h, fun _ h => h, fun _ h => h⟩
  | read v _ _ _ h' => subst h'; exact ⟨fun _ h => by simp [h], fun _ h => h, fun _ h => h⟩
  | eff v m' _ e _ _ h' => subst h'; exact ⟨fun _ h => h, fun _ h => by simp [h], fun _ h => h⟩
  | pan v m' _ e hn _ h' => subst h'; exact ⟨fun _ h => h, fun _ h => by simp [h], fun x h => by rw [hn] at h; cases h⟩
end
end Go.Vm
-- VmKc: What was written last, in the order of the text.
namespace Go.Vm
open Go Go.RowKit

/-- The last of the first k operations that writes a temporary. -/
def newest (dsts : List (Option Tmp)) (t : Tmp) : Nat → Option Nat
  | 0 => none
  | k + 1 => if dsts[k]? = some (some t) then some k else newest dsts t k

theorem newest_some {dsts : List (Option Tmp)} {t : Tmp} : ∀ {k i : Nat}, newest dsts t k = some i → i < k ∧ dsts[i]? = some (some t) ∧ ∀ j, i < j → j < k → dsts[j]? ≠ some (some t)
  | 0, i, h => by simp [newest] at h
  | k + 1, i, h => by
    simp only [newest] at h
    split at h
    · rename_i hd; cases h; exact ⟨by omega, hd, fun j h1 h2 => by omega⟩
    · rename_i hd
      obtain ⟨h1, h2, h3⟩ := newest_some h
      refine ⟨by omega, h2, fun j h4 h5 => ?_⟩
      by_cases e : j = k
      · subst e; exact hd
      · exact h3 j h4 (by omega)
theorem newest_none {dsts : List (Option Tmp)} {t : Tmp} : ∀ {k : Nat}, newest dsts t k = none → ∀ j, j < k → dsts[j]? ≠ some (some t)
  | 0, _, j, hj => by omega
  | k + 1, h, j, hj => by
    simp only [newest] at h
    split at h
    · simp at h
    · rename_i hd
      by_cases e : j = k
      · subst e; exact hd
      · exact newest_none h j (by omega)

theorem take_rev_succ {α : Type} {l : List α} {k : Nat} {x : α} (h : l[k]? = some x) : (l.take (k + 1)).reverse = x :: (l.take k).reverse := by
  rw [List.take_add_one, h]; simp

theorem newest_past {dsts : List (Option Tmp)} {t : Tmp} : ∀ {k d : Nat}, k ≤ dsts.length → (dsts.take k).reverse.idxOf? (some t) = some d → d < k ∧ newest dsts t k = some (k - 1 - d)
  | 0, d, _, h => by simp [List.idxOf?] at h
  | k + 1, d, hk, h => by
    obtain ⟨x, hx⟩ : ∃ x, dsts[k]? = some x := ⟨_, List.getElem?_eq_getElem (by omega)⟩
    rw [take_rev_succ hx, List.idxOf?_cons] at h
    simp only [newest]
    by_cases e : x = some t
    · subst e
      simp only [beq_self_eq_true, if_true, Option.some.injEq] at h
      subst h
      simp [hx]
    · have e' : (x == some t) = false := by simpa using e
      simp only [e', Bool.false_eq_true, if_false] at h
      obtain ⟨d', h1, rfl⟩ := omap h
      obtain ⟨h2, h3⟩ := newest_past (by omega) h1
      have hne : ¬ dsts[k]? = some (some t) := by rw [hx]; simpa using e
      simp only [hne, if_false, h3]
      exact ⟨by omega, by congr 1; omega⟩

section
variable {P : Program} {A : Ann} {F : FAnn}

theorem opersOf_get {ops : Array Oper} : ∀ (rest : List Oper) (past : List (Option Tmp)) (l : List VOper), opersOf P A F ops past rest = some l →
    l.length = rest.length ∧ ∀ j o, rest[j]? = some o → ∃ vo, l[j]? = some vo ∧ operOf P A F (((rest.map (·.dst)).take j).reverse ++ past) o ops = some vo
  | [], past, l, h => by simp only [opersOf, Option.some.injEq] at h; subst h; exact ⟨rfl, fun j o hj => by simp at hj⟩
  | o :: rest, past, l, h => by
    simp only [opersOf] at h
    obtain ⟨vo, h1, h⟩ := obind h
    obtain ⟨l', h2, rfl⟩ := omap h
    obtain ⟨k1, k2⟩ := opersOf_get rest _ l' h2
    refine ⟨by simp [k1], fun j o' hj => ?_⟩
    cases j with
    | zero => simp only [List.getElem?_cons_zero, Option.some.injEq] at hj; subst hj; exact ⟨vo, rfl, by simpa using h1⟩
    | succ j =>
      simp only [List.getElem?_cons_succ] at hj
      obtain ⟨vo', q1, q2⟩ := k2 j o' hj
      exact ⟨vo', by simpa using q1, by simpa using q2⟩

theorem opdOf_tmp {past : List (Option Tmp)} {t : Tmp} {y : Opd} (h : opdOf A F past (.tmp t) = some y) : tmpOf F.slots past y = some t := by
  simp only [opdOf] at h
  split at h
  · rename_i i hi
    cases h
    simp only [List.idxOf?, List.findIdx?_eq_some_iff_getElem, beq_iff_eq] at hi
    obtain ⟨h1, h2, _⟩ := hi
    simp [tmpOf, h1, h2]
  · obtain ⟨d, hd, rfl⟩ := omap h
    simp only [List.idxOf?, List.findIdx?_eq_some_iff_getElem, beq_iff_eq] at hd
    obtain ⟨h1, h2, _⟩ := hd
    simp [tmpOf, h1, h2]

theorem opdOf_other {past : List (Option Tmp)} {x : Operand} {y : Opd} (h : opdOf A F past x = some y) (hx : ∀ t, x ≠ .tmp t) : ∃ c, y = .c c := by
  cases x with
  | tmp t => exact absurd rfl (hx t)
  | const v => simp only [opdOf] at h; obtain ⟨d, _, rfl⟩ := omap h; exact ⟨_, rfl⟩
  | global v => simp only [opdOf] at h; obtain ⟨d, _, rfl⟩ := omap h; exact ⟨_, rfl⟩
  | func f => simp only [opdOf, Option.some.injEq] at h; exact ⟨_, h.symm⟩

/-- What runs, in the order of the text. -/
structure Canon (P : Program) (A : Ann) (F : FAnn) (cf : CF) (b : Nat) (ops : Array Oper) (l : List VOper) (S : Nat → DS) (vars : List V) (m : Mem) : Prop where
  len : l.length = ops.size
  oper : ∀ j o, ops[j]? = some o → ∃ vo, l[j]? = some vo ∧ operOf P A F ((ops.toList.map (·.dst)).take j).reverse o ops = some vo ∧ StepCase cf b (preOf ops) j vo (S j) (S (j + 1))
  zero : (S 0).ov = [] ∧ (S 0).vars = vars ∧ (S 0).m = m ∧ (S 0).pan = none

variable {cf : CF} {b : Nat} {ops : Array Oper} {l : List VOper} {S : Nat → DS} {vars : List V} {m : Mem}

def valAt (S : Nat → DS) (i : Nat) : V := (S (i + 1)).ov.headD .undef

abbrev dstsOf (ops : Array Oper) : List (Option Tmp) := ops.toList.map (·.dst)
theorem dstsOf_get {j : Nat} : (dstsOf ops)[j]? = (ops[j]?).map (·.dst) := by simp [dstsOf]

theorem Canon.ovs (C : Canon P A F cf b ops l S vars m) : ∀ k, k ≤ ops.size → (S k).ov.length = k ∧ ∀ d, d < k → (S k).ov.getD d .undef = valAt S (k - 1 - d)
  | 0, _ => ⟨by rw [C.zero.1]; rfl, fun d h => by omega⟩
  | k + 1, hk => by
    obtain ⟨h1, h2⟩ := C.ovs k (by omega)
    obtain ⟨vo, _, _, hs⟩ := C.oper k ops[k] (by simp [show k < ops.size by omega])
    obtain ⟨x, y, e1, _, _⟩ := hs.ov
    refine ⟨by rw [e1]; simp [h1], fun d hd => ?_⟩
    cases d with
    | zero => rw [e1]; simp [valAt, e1]
    | succ d =>
      rw [e1, List.getD_cons_succ, h2 d (by omega)]
      congr 1; omega

theorem Canon.var (C : Canon P A F cf b ops l S vars m) {t : Tmp} {i : Nat} (hi : F.slots.idxOf? t = some i) : ∀ k, k ≤ ops.size →
    (newest (dstsOf ops) t k = none → (S k).vars.getD i .undef = vars.getD i .undef) ∧
    ∀ j, newest (dstsOf ops) t k = some j → (S k).vars.getD i .undef = valAt S j ∨ (S k).vars.getD i .undef = .undef
  | 0, _ => ⟨fun _ => by rw [C.zero.2.1], fun j h => by simp [newest] at h⟩
  | k + 1, hk => by
    obtain ⟨h1, h2⟩ := C.var hi k (by omega)
    have hk' : ops[k]? = some ops[k] := by simp [show k < ops.size by omega]
    obtain ⟨vo, _, hop, hs⟩ := C.oper k ops[k] hk'
    obtain ⟨x, y, e1, e2, e3⟩ := hs.ov
    obtain ⟨_, _, hdst⟩ := operOf_parts hop
    have hd : (dstsOf ops)[k]? = some ops[k].dst := by rw [dstsOf_get, hk']; rfl
    simp only [newest]
    rw [e2, hdst]
    by_cases e : ops[k].dst = some t
    · have : (dstsOf ops)[k]? = some (some t) := by rw [hd, e]
      simp only [this, if_true]
      refine ⟨fun h => by simp at h, fun j hj => ?_⟩
      cases hj
      rw [e]
      simp only [Option.bind_some, hi, setv, getD_set, true_and]
      by_cases hlt : i < (S k).vars.length
      · simp only [hlt, if_true]
        rcases e3 with rfl | rfl
        · left; simp [valAt, e1]
        · right; rfl
      · simp only [hlt, if_false]
        right
        simp [List.getD, List.getElem?_eq_none (Nat.le_of_not_lt hlt)]
    · have : ¬ (dstsOf ops)[k]? = some (some t) := by rw [hd]; simpa using e
      simp only [this, if_false]
      have hsame : (setv (S k).vars (ops[k].dst.bind fun d => F.slots.idxOf? d) y).getD i .undef = (S k).vars.getD i .undef := by
        cases hc : ops[k].dst with
        | none => rfl
        | some d =>
          simp only [Option.bind_some]
          cases hd' : F.slots.idxOf? d with
          | none => rfl
          | some i' =>
            have hne : ¬ i' = i := fun e' => by subst e'; exact e (by rw [hc, idxOf?_inj hd' hi])
            simp only [setv, getD_set, hne, false_and, if_false]
      rw [hsame]
      exact ⟨h1, h2⟩

/-- What a temporary is read as. -/
theorem Canon.read (C : Canon P A F cf b ops l S vars m) {k : Nat} (hk : k ≤ ops.size) {t : Tmp} {y : Opd} (h : opdOf A F ((dstsOf ops).take k).reverse (.tmp t) = some y) :
    (newest (dstsOf ops) t k = none ∧ ∃ i, F.slots.idxOf? t = some i ∧ opd (S k).ov (S k).vars y = vars.getD i .undef) ∨
    ∃ j, newest (dstsOf ops) t k = some j ∧ (opd (S k).ov (S k).vars y = valAt S j ∨ opd (S k).ov (S k).vars y = .undef) := by
  simp only [opdOf] at h
  split at h
  · rename_i i hi
    cases h
    obtain ⟨h1, h2⟩ := C.var hi k hk
    cases hn : newest (dstsOf ops) t k with
    | none => exact .inl ⟨rfl, i, hi, h1 hn⟩
    | some j => exact .inr ⟨j, rfl, h2 j hn⟩
  · obtain ⟨d, hd, rfl⟩ := omap h
    obtain ⟨h1, h2⟩ := newest_past (by simpa using hk) hd
    exact .inr ⟨_, h2, .inl ((C.ovs k hk).2 d h1)⟩

theorem Canon.grow (C : Canon P A F cf b ops l S vars m) : ∀ k n, k + n ≤ ops.size → (∀ x ∈ (S k).reads, x ∈ (S (k + n)).reads) ∧ (∀ x ∈ (S k).effs, x ∈ (S (k + n)).effs) ∧ (∀ x, (S k).pan = some x → (S (k + n)).pan = some x)
  | k, 0, _ => ⟨fun _ h => h, fun _ h => h, fun _ h => h⟩
  | k, n + 1, h => by
    obtain ⟨h1, h2, h3⟩ := C.grow k n (by omega)
    obtain ⟨vo, _, _, hs⟩ := C.oper (k + n) ops[k + n] (by simp [show k + n < ops.size by omega])
    obtain ⟨q1, q2, q3⟩ := hs.grow
    exact ⟨fun x hx => q1 x (h1 x hx), fun x hx => q2 x (h2 x hx), fun x hx => q3 x (h3 x hx)⟩

/-- Something stays the same over operations of which each lets it. -/
theorem Canon.same (C : Canon P A F cf b ops l S vars m) {α : Type} (f : Mem → α) {p : Nat} : ∀ n, p + n ≤ ops.size → (∀ q, p ≤ q → q < p + n → f (S q).m = f (S (q + 1)).m) → f (S p).m = f (S (p + n)).m
  | 0, _, _ => rfl
  | n + 1, h, hq => (C.same f n (by omega) fun q h1 h2 => hq q h1 (by omega)).trans (hq (p + n) (by omega) (by omega))
end
end Go.Vm
-- VmK: Regions whose order is drawn.
namespace Go.Vm
open Go Go.RowKit

section
variable {P : Program} {w0 : World} {φ : Phi} {g : List GO} {m : Mem} {a0 : Act}
variable {A : Ann} {F : FAnn} {cf : CF} {b : Nat} {ops : Array Oper} {l : List VOper} {S : Nat → DS} {vars : List V} {d : DI}

/-- What the checks say of a region. -/
structure Checked' (F : FAnn) (ops : Array Oper) (l : List VOper) (d : DI) : Prop where
  pre : d.pre = preOf ops
  bits : ∀ i q, ((preOf ops).getD i 0).testBit q = true → q < i
  order : ∀ j vo o, l[j]? = some vo → ops[j]? = some o → ∀ t, some t ∈ namedBy F.slots ((dstsOf ops).take j).reverse vo o.dst → ∀ i, (dstsOf ops)[i]? = some (some t) → i ≠ j → ((preOf ops).getD (Nat.max i j) 0).testBit (Nat.min i j) = true
  effs : ∀ i j vi vj, l[i]? = some vi → l[j]? = some vj → isEff vi.op = true → isEff vj.op = true → i < j → ((preOf ops).getD j 0).testBit i = true
  pairs : ∀ i j vi vj, l[i]? = some vi → l[j]? = some vj → mayRead vi.op = true → isEff vj.op = true → free (preOf ops) i j = true → (i, j) ∈ d.pairs

theorem mem_zipIdx' {α : Type} {l : List α} {i : Nat} {x : α} : (x, i) ∈ l.zipIdx ↔ l[i]? = some x := by
  rw [List.mem_zipIdx_iff_getElem?]

theorem drawInfo_checked (h : drawInfo F.slots (dstsOf ops) (preOf ops) l = some d) : Checked' F ops l d := by
  unfold drawInfo at h
  simp only at h
  split at h
  · rename_i hc
    cases h
    simp only [Bool.and_eq_true] at hc
    obtain ⟨h1, h2⟩ := hc
    unfold orderOk at h1
    simp only [Bool.and_eq_true, List.all_eq_true] at h1
    obtain ⟨h0, h1⟩ := h1
    refine ⟨rfl, ?_, ?_, ?_, ?_⟩
    · intro i q hq
      cases hp : (preOf ops)[i]? with
      | none => simp [List.getD, hp] at hq
      | some x =>
        have := h0 (x, i) (mem_zipIdx'.2 hp)
        simp only [decide_eq_true_eq] at this
        have e : (preOf ops).getD i 0 = x := by simp [List.getD, hp]
        rw [e] at hq
        apply Classical.byContradiction
        intro hn
        have := Nat.testBit_lt_two_pow (Nat.lt_of_lt_of_le this (Nat.pow_le_pow_right (by omega) (Nat.le_of_not_lt hn)))
        rw [this] at hq; cases hq
    · intro j vo o hj ho t ht i hi hne
      have h3 := h1 (vo, j) (mem_zipIdx'.2 hj)
      have e : (dstsOf ops).getD j none = o.dst := by simp [List.getD, dstsOf_get, ho]
      simp only [List.all_eq_true] at h3
      rw [e] at h3
      have h4 := h3 (some t) ht
      simp only [Option.isNone_some, Bool.false_or, List.all_eq_true] at h4
      have h5 := h4 (some t, i) (mem_zipIdx'.2 hi)
      simpa [hne] using h5
    · intro i j vi vj hi hj ei ej hlt
      simp only [List.all_eq_true, List.mem_filter, and_imp] at h2
      have h3 := h2 (vi, i) (mem_zipIdx'.2 hi) ei (vj, j) (mem_zipIdx'.2 hj) ej
      have h4 : Nat.max i j = j := by simp [Nat.max_def]; omega
      have h5 : Nat.min i j = i := by simp [Nat.min_def]; omega
      simp only [h4, h5, Bool.or_eq_true, beq_iff_eq] at h3
      rcases h3 with h3 | h3
      · omega
      · exact h3
    · intro i j vi vj hi hj ei ej hf
      simp only [List.mem_flatMap, List.mem_filter, List.mem_map]
      exact ⟨(vi, i), ⟨mem_zipIdx'.2 hi, ei⟩, (vj, j), ⟨⟨mem_zipIdx'.2 hj, ej⟩, hf⟩, rfl⟩
  · simp at h

/-- How far a drawn order has gone. -/
structure Gone (P : Program) (w0 : World) (φ : Phi) (g : List GO) (m : Mem) (F : FAnn) (ops : Array Oper) (l : List VOper) (S : Nat → DS) (a0 : Act) (listed : Array Bool) (a : Act) (w : World) (p : Nat) (φ' : Phi) (g' : List GO) : Prop where
  size : listed.size = ops.size
  down : ∀ i, i < ops.size → listed.getD i true = true → ∀ q, ((preOf ops).getD i 0).testBit q = true → listed.getD q true = true
  alive : ∀ e v, (S ops.size).pan = some (e, v) → listed.getD e true = false
  le : p ≤ ops.size
  effs : ∀ q vo, l[q]? = some vo → isEff vo.op = true → (listed.getD q true = true ↔ q < p)
  goes : Goes w0 φ g m φ' g' (S p).m w
  long : m.length ≤ (S p).m.length
  tmps : a.tmps.size = F.n
  defers : a.defers = []
  last : ∀ t i, i < ops.size → listed.getD i true = true → (dstsOf ops)[i]? = some (some t) → (∀ i', i < i' → i' < ops.size → listed.getD i' true = true → (dstsOf ops)[i']? ≠ some (some t)) →
    Rep φ' g' (S p).m (valAt S i) (a.tmps.getD t undef)
  old : ∀ t, (∀ i, i < ops.size → listed.getD i true = true → (dstsOf ops)[i]? ≠ some (some t)) → a.tmps.getD t undef = a0.tmps.getD t undef

theorem ready_pre {listed : Array Bool} {a : Act} {w : World} {p : Nat} {φ' : Phi} {g' : List GO} (G : Gone P w0 φ g m F ops l S a0 listed a w p φ' g') (hD : Region.departs ops = false) {j : Nat} (hj : j ∈ Region.ready .any ops listed) (hb : ∀ i q, ((preOf ops).getD i 0).testBit q = true → q < i) :
    ∀ q, ((preOf ops).getD j 0).testBit q = true → listed.getD q true = true := by
  intro q hq
  obtain ⟨_, o, ho, hall⟩ := mem_ready.1 hj
  obtain ⟨e, he, hbd, h⟩ := pre_spec ho q hq
  have he1 := hall e he hbd
  have hlt : e.on < listed.size := by
    apply Classical.byContradiction
    intro hn
    rw [Array.getD_eq_getD_getElem?, Array.getElem?_eq_none (Nat.le_of_not_lt hn)] at he1
    simp at he1
  have he2 : listed.getD e.on true = true := by
    rw [Array.getD_eq_getD_getElem?, Array.getElem?_eq_getElem hlt] at he1 ⊢
    exact he1
  rcases h with rfl | h
  · exact he2
  · exact G.down e.on (by rw [← G.size]; exact hlt) he2 q h

/-- No one that has run writes what is named here, but those of which the text says so. -/
theorem other_writer {listed : Array Bool} {a : Act} {w : World} {p : Nat} {φ' : Phi} {g' : List GO} (G : Gone P w0 φ g m F ops l S a0 listed a w p φ' g') (K : Checked' F ops l d) {j : Nat} {vo : VOper} {o : Oper} (hvo : l[j]? = some vo) (ho : ops[j]? = some o)
    (hj : listed.getD j true = false) {t : Tmp} (ht : some t ∈ namedBy F.slots ((dstsOf ops).take j).reverse vo o.dst) {i : Nat} (hi : i < ops.size) (hl : listed.getD i true = true) (hd : (dstsOf ops)[i]? = some (some t)) : i < j := by
  apply Classical.byContradiction
  intro hn
  have hne : i ≠ j := fun e => by subst e; rw [hj] at hl; cases hl
  have h1 := K.order j vo o hvo ho t ht i hd hne
  have h4 : Nat.max i j = i := by simp [Nat.max_def]; omega
  have h5 : Nat.min i j = j := by simp [Nat.min_def]; omega
  rw [h4, h5] at h1
  have := G.down i hi hl j h1
  rw [hj] at this; cases this

theorem read_temp {listed : Array Bool} {a : Act} {w : World} {p : Nat} {φ' : Phi} {g' : List GO} (G : Gone P w0 φ g m F ops l S a0 listed a w p φ' g') (K : Checked' F ops l d) (C : Canon P A F cf b ops l S vars m) (hD : Region.departs ops = false)
    (hv : ∀ t i, F.slots.idxOf? t = some i → Rep φ' g' (S p).m (vars.getD i .undef) (a0.tmps.getD t undef))
    {j : Nat} {vo : VOper} {o : Oper} (hvo : l[j]? = some vo) (ho : ops[j]? = some o) (hj : j ∈ Region.ready .any ops listed) {t : Tmp} (ht : some t ∈ namedBy F.slots ((dstsOf ops).take j).reverse vo o.dst) {y : Opd}
    (hy : opdOf A F ((dstsOf ops).take j).reverse (.tmp t) = some y) : Rep φ' g' (S p).m (opd (S j).ov (S j).vars y) (a.tmps.getD t undef) := by
  have hjl := (mem_ready.1 hj).1
  have hlt : j < ops.size := (Array.getElem?_eq_some_iff.1 ho).1
  rcases C.read (Nat.le_of_lt hlt) hy with ⟨hn, i, h1, h2⟩ | ⟨i, hn, h2⟩
  · rw [h2, G.old t fun i' hi' hl' hd' => newest_none hn i' (other_writer G K hvo ho hjl ht hi' hl' hd') hd']
    exact hv t i h1
  · obtain ⟨k1, k2, k3⟩ := newest_some hn
    have hl : listed.getD i true = true := by
      refine ready_pre G hD hj K.bits i ?_
      have := K.order j vo o hvo ho t ht i k2 (by omega)
      have h4 : Nat.max i j = j := by simp [Nat.max_def]; omega
      have h5 : Nat.min i j = i := by simp [Nat.min_def]; omega
      rwa [h4, h5] at this
    rcases h2 with h2 | h2
    · rw [h2]
      exact G.last t i (by omega) hl k2 fun i' hi1 hi2 hi3 hi4 => k3 i' hi1 (other_writer G K hvo ho hjl ht hi2 hi3 hi4) hi4
    · rw [h2]; exact rep_undef

theorem getD_listed {listed : Array Bool} {j i : Nat} (hj : j < listed.size) : (listed.setIfInBounds j true).getD i true = if i = j then true else listed.getD i true := by
  simp only [Array.getD_eq_getD_getElem?, Array.getElem?_setIfInBounds]
  by_cases h : j = i
  · subst h; simp [hj]
  · have : ¬ i = j := fun e => h e.symm
    simp [h, this]

theorem Gone.after {listed : Array Bool} {a : Act} {w w' : World} {p p' : Nat} {φ' φ'' : Phi} {g' g'' : List GO} (G : Gone P w0 φ g m F ops l S a0 listed a w p φ' g') (K : Checked' F ops l d) (hD : Region.departs ops = false)
    {j : Nat} {vo : VOper} {o : Oper} (hvo : l[j]? = some vo) (ho : ops[j]? = some o) (hj : j ∈ Region.ready .any ops listed) (hk : dstOk F o.dst = true)
    (hal : ∀ v, (S ops.size).pan ≠ some (j, v)) (hp : p' ≤ ops.size) (he : ∀ q vo', l[q]? = some vo' → isEff vo'.op = true → ((q = j ∨ listed.getD q true = true) ↔ q < p'))
    (hgo : Goes w0 φ' g' (S p).m φ'' g'' (S p').m w') (hlong : (S p).m.length ≤ (S p').m.length) {cv : Value} (hr : Rep φ'' g'' (S p').m (valAt S j) cv) :
    Gone P w0 φ g m F ops l S a0 (listed.setIfInBounds j true) (a.put o.dst cv) w' p' φ'' g'' := by
  have hlt : j < ops.size := (Array.getElem?_eq_some_iff.1 ho).1
  have hjl := (mem_ready.1 hj).1
  have gl : ∀ i, (listed.setIfInBounds j true).getD i true = if i = j then true else listed.getD i true := fun i => getD_listed (by rw [G.size]; exact hlt)
  have hdj : (dstsOf ops)[j]? = some o.dst := by rw [dstsOf_get, ho]; rfl
  refine ⟨by simp [G.size], ?_, ?_, hp, ?_, G.goes.trans hgo G.long, Nat.le_trans G.long hlong, put_size.trans G.tmps, put_defers.trans G.defers, ?_, ?_⟩
  · intro i hi hl q hq
    rw [gl] at hl ⊢
    by_cases e : i = j
    · subst e
      split
      · rfl
      · exact ready_pre G hD hj K.bits q hq
    · simp only [e, if_false] at hl
      split
      · rfl
      · exact G.down i hi hl q hq
  · intro e v hpan
    rw [gl]
    have hne : ¬ e = j := fun h => by subst h; exact hal v hpan
    simp only [hne, if_false]
    exact G.alive e v hpan
  · intro q vo' hq hef
    rw [← he q vo' hq hef, gl]
    by_cases e : q = j <;> simp [e]
  · intro t i hi hl hd hmax
    rw [gl] at hl
    rw [put_getD]
    by_cases e : i = j
    · subst e
      have : o.dst = some t := by rw [hdj] at hd; exact Option.some.inj hd
      have hsz : t < a.tmps.size := by rw [this] at hk; simp only [dstOk, decide_eq_true_eq] at hk; rw [G.tmps]; exact hk
      simp only [this, hsz, and_self, if_true]
      exact hr
    · simp only [e, if_false] at hl
      have hne : ¬ o.dst = some t := fun e' => by
        have h1 : i < j := other_writer G K hvo ho hjl (t := t) (by rw [e']; simp [namedBy]) hi hl hd
        exact hmax j h1 hlt (by rw [gl]; simp) (by rw [hdj, e'])
      simp only [hne, false_and, if_false]
      refine hgo.rep G.goes.inv (G.last t i hi hl hd fun i' h1 h2 h3 => hmax i' h1 h2 ?_)
      rw [gl]; split
      · rfl
      · exact h3
  · intro t hn
    rw [put_getD]
    have hne : ¬ o.dst = some t := fun e' => hn j hlt (by rw [gl]; simp) (by rw [hdj, e'])
    simp only [hne, false_and, if_false]
    exact G.old t fun i hi hl => hn i hi (by
      rw [gl]
      split
      · rfl
      · exact hl)

theorem all_listed {listed : Array Bool} {a : Act} {w : World} {p : Nat} {φ' : Phi} {g' : List GO} (G : Gone P w0 φ g m F ops l S a0 listed a w p φ' g') (hb : ∀ i q, ((preOf ops).getD i 0).testBit q = true → q < i) (hr : Region.ready .any ops listed = []) :
    ∀ i, listed.getD i true = true := by
  intro i
  induction i using Nat.strongRecOn with
  | ind i ih =>
    by_cases hi : i < ops.size
    · apply Classical.byContradiction
      intro hn
      have hn : listed.getD i true = false := by simpa using hn
      have ho : ops[i]? = some ops[i] := by simp [hi]
      have : i ∈ Region.ready .any ops listed := mem_ready.2 ⟨hn, ops[i], ho, fun e he hbd => by
        have h1 := hb i e.on (pre_edge ho he hbd)
        have h2 := ih e.on h1
        have hlt : e.on < listed.size := by rw [G.size]; omega
        rw [Array.getD_eq_getD_getElem?, Array.getElem?_eq_getElem hlt] at h2 ⊢
        exact h2⟩
      rw [hr] at this; cases this
    · rw [Array.getD_eq_getD_getElem?, Array.getElem?_eq_none (by rw [G.size]; omega)]; rfl

/-- Between the effects that have run and where the text is, memory differs by effects alone that are not waited for. -/
theorem mem_same {listed : Array Bool} {a : Act} {w : World} {p : Nat} {φ' : Phi} {g' : List GO} (G : Gone P w0 φ g m F ops l S a0 listed a w p φ' g') (C : Canon P A F cf b ops l S vars m) {α : Type} (f : Mem → α) {j : Nat} (hj : j ≤ ops.size)
    (h : ∀ q vo, l[q]? = some vo → isEff vo.op = true → (p ≤ q ∧ q < j ∨ j ≤ q ∧ q < p) → f (S q).m = f (S (q + 1)).m) : f (S p).m = f (S j).m := by
  have step : ∀ q, q < ops.size → (p ≤ q ∧ q < j ∨ j ≤ q ∧ q < p) → f (S q).m = f (S (q + 1)).m := fun q hq hb => by
    obtain ⟨vo, h1, _, h2⟩ := C.oper q ops[q] (by simp [hq])
    by_cases he : isEff vo.op = true
    · exact h q vo h1 he hb
    · rw [h2.quiet (by simpa using he)]
  rcases Nat.le_total p j with hpj | hpj
  · have := C.same f (p := p) (j - p) (by omega) fun q h1 h2 => step q (by omega) (.inl ⟨h1, by omega⟩)
    rwa [show p + (j - p) = j by omega] at this
  · have hp := G.le
    have := C.same f (p := j) (p - j) (by omega) fun q h1 h2 => step q (by omega) (.inr ⟨h1, by omega⟩)
    rw [show j + (p - j) = p by omega] at this
    exact this.symm
end
end Go.Vm
-- VmM: Regions whose order is drawn: any order does what the text's order does.
namespace Go.Vm
open Go Go.RowKit

section
variable {P : Program} {w0 : World} {φ : Phi} {g : List GO} {m : Mem} {a0 : Act}
variable {A : Ann} {F : FAnn} {cf : CF} {b : Nat} {ops : Array Oper} {l : List VOper} {S : Nat → DS} {vars : List V} {d : DI}

theorem Canon.panAt (C : Canon P A F cf b ops l S vars m) {e : Nat} {v : V} : ∀ k, k ≤ ops.size → (S k).pan = some (e, v) → e < k ∧ (S e).pan = none ∧ (S (e + 1)).pan = some (e, v)
  | 0, _, h => by rw [C.zero.2.2.2] at h; cases h
  | k + 1, hk, h => by
    obtain ⟨vo, _, _, hs⟩ := C.oper k ops[k] (by simp [show k < ops.size by omega])
    have old : (S k).pan = some (e, v) → e < k + 1 ∧ (S e).pan = none ∧ (S (e + 1)).pan = some (e, v) := fun h => by
      obtain ⟨h1, h2⟩ := C.panAt k (by omega) h
      exact ⟨by omega, h2⟩
    cases hs with
    | dead _ h' => rw [h'] at h; exact old h
    | skip _ h' => rw [h'] at h; exact old h
    | pure v _ _ h' => rw [h'] at h; exact old h
    | read v _ _ _ h' => rw [h'] at h; exact old h
    | eff v m' _ _ _ _ h' => rw [h'] at h; exact old h
    | pan v' m' _ _ hn _ h' =>
      have h2 := h
      rw [h'] at h2
      simp only [Option.some.injEq, Prod.mk.injEq] at h2
      obtain ⟨rfl, rfl⟩ := h2
      exact ⟨by omega, hn, h⟩

theorem next_p {listed : Array Bool} {a : Act} {w : World} {p : Nat} {φ' : Phi} {g' : List GO} (G : Gone P w0 φ g m F ops l S a0 listed a w p φ' g') (K : Checked' F ops l d) (C : Canon P A F cf b ops l S vars m) (hD : Region.departs ops = false)
    {j : Nat} {vo : VOper} {o : Oper} (hvo : l[j]? = some vo) (ho : ops[j]? = some o) (hj : j ∈ Region.ready .any ops listed) :
    ∃ p', p' ≤ ops.size ∧ (∀ q vo', l[q]? = some vo' → isEff vo'.op = true → ((q = j ∨ listed.getD q true = true) ↔ q < p')) ∧ ((isEff vo.op = true ∧ p' = j + 1 ∧ (S p).m = (S j).m) ∨ (isEff vo.op = false ∧ p' = p)) := by
  have hlt : j < ops.size := (Array.getElem?_eq_some_iff.1 ho).1
  have hjl := (mem_ready.1 hj).1
  have hpre := ready_pre G hD hj K.bits
  have lt_size : ∀ {q vo'}, l[q]? = some vo' → q < ops.size := fun h => by have := (List.getElem?_eq_some_iff.1 h).1; rwa [C.len] at this
  cases he : isEff vo.op with
  | false =>
    refine ⟨p, G.le, fun q vo' hq hef => ?_, .inr ⟨rfl, rfl⟩⟩
    rw [← G.effs q vo' hq hef]
    constructor
    · rintro (rfl | h)
      · rw [hvo] at hq; cases hq; rw [he] at hef; cases hef
      · exact h
    · exact .inr
  | true =>
    have before : ∀ q vo', l[q]? = some vo' → isEff vo'.op = true → q < j → listed.getD q true = true := fun q vo' hq hef hlt => hpre q (K.effs q j vo' vo hq hvo hef he hlt)
    have behind : ∀ q vo', l[q]? = some vo' → isEff vo'.op = true → j < q → ¬ listed.getD q true = true := fun q vo' hq hef hlt hl => by
      have := G.down q (lt_size hq) hl j (K.effs j q vo vo' hvo hq he hef hlt)
      rw [hjl] at this; cases this
    refine ⟨j + 1, by omega, fun q vo' hq hef => ?_, .inl ⟨rfl, rfl, ?_⟩⟩
    · constructor
      · rintro (rfl | h)
        · omega
        · apply Classical.byContradiction
          intro hn
          exact behind q vo' hq hef (by omega) h
      · intro h
        by_cases e : q = j
        · exact .inl e
        · exact .inr (before q vo' hq hef (by omega))
    · refine mem_same G C (fun m => m) (Nat.le_of_lt hlt) fun q vo' hq hef hb => ?_
      rcases hb with ⟨h1, h2⟩ | ⟨h1, h2⟩
      · have := (G.effs q vo' hq hef).1 (before q vo' hq hef h2)
        omega
      · have hl := (G.effs q vo' hq hef).2 h2
        by_cases e : q = j
        · subst e; rw [hjl] at hl; cases hl
        · exact absurd hl (behind q vo' hq hef (by omega))

open Classical in
noncomputable def only (op : VOp) (e : Opd → V) : Opd → V := fun y => if y ∈ op.opds then e y else .undef

theorem draw_step (hcf : CFok P w0 A cf) (hcp : CFpure cf) (hD : Region.departs ops = false) {wi : World} (hi0 : Inv w0 φ g m wi) (hg : Globs A φ) (hv0 : VarsOK F φ g m vars a0)
    (K : Checked' F ops l d) (C : Canon P A F cf b ops l S vars m) {Q : Exit → Act → World → Prop} {rs : Rs} (hq : RsOK w0 φ g m F Q rs) (hend : drawEnd d.pairs (S ops.size) = some rs)
    {listed : Array Bool} {a : Act} {w : World} {p : Nat} {φ' : Phi} {g' : List GO} (G : Gone P w0 φ g m F ops l S a0 listed a w p φ' g') {j : Nat} (hj : j ∈ Region.ready .any ops listed) {Kn : Act → World → Prop}
    (hK : ∀ a' w' p' φ'' g'', Gone P w0 φ g m F ops l S a0 (listed.setIfInBounds j true) a' w' p' φ'' g'' → Kn a' w') : wpOp P ops Q j Kn a w := by
  obtain ⟨hjl, o, ho, _⟩ := mem_ready.1 hj
  have hlt : j < ops.size := (Array.getElem?_eq_some_iff.1 ho).1
  obtain ⟨vo, hvo, hop, hs⟩ := C.oper j o ho
  obtain ⟨hk, hopOf, hdst⟩ := operOf_parts hop
  have hvars : ∀ t i, F.slots.idxOf? t = some i → Rep φ' g' (S p).m (vars.getD i .undef) (a0.tmps.getD t undef) := fun t i h => G.goes.rep hi0 (hv0.2.2 t i h)
  have rd : ∀ {t y}, some t ∈ namedBy F.slots ((dstsOf ops).take j).reverse vo o.dst → opdOf A F ((dstsOf ops).take j).reverse (.tmp t) = some y → Rep φ' g' (S p).m (opd (S j).ov (S j).vars y) (a.tmps.getD t undef) :=
    fun ht hy => read_temp G K C hD hvars hvo ho hj ht hy
  have hwd : ∀ {x : Bool}, wanted (S j).ov vo.guard = some x → Region.wanted o (yielded ops a.tmps) = x := fun hx =>
    wanted_ok (fun t dd want hgd hy => rd (y := .l dd) (by
      have h1 := opdOf_tmp hy
      simp only [namedBy, hgd, List.mem_cons, List.mem_append]
      exact .inr (.inl (by simp [h1]))) hy) hop hx
  have told : Told A F ((dstsOf ops).take j).reverse φ' g' (S p).m (only vo.op (opd (S j).ov (S j).vars)) a.eval := by
    intro x y hxy
    unfold only
    split
    · rename_i hmem
      cases x with
      | tmp t =>
        refine rd ?_ hxy
        simp only [namedBy, List.mem_cons, List.mem_append]
        exact .inr (.inr (List.mem_map.2 ⟨y, hmem, opdOf_tmp hxy⟩))
      | const v =>
        simp only [opdOf] at hxy
        obtain ⟨dd, hd, rfl⟩ := omap hxy
        exact RepC.rep _ _ (vOf_rep _ _ hd)
      | global gl =>
        simp only [opdOf] at hxy
        obtain ⟨dd, hd, rfl⟩ := omap hxy
        exact RepC.rep _ _ ((hg.ext G.goes.ext) _ _ hd)
      | func f =>
        simp only [opdOf, Option.some.injEq] at hxy
        subst hxy
        exact ⟨[], [], rfl, RepL.nil, RepL.nil⟩
    · exact rep_undef
  have econg : ∀ {mm : Mem}, opRun cf b mm (only vo.op (opd (S j).ov (S j).vars)) vo.op = opRun cf b mm (opd (S j).ov (S j).vars) vo.op := opRun_congr fun y hy => by simp [only, hy]
  obtain ⟨p', hp', heffs, hmem⟩ := next_p G K C hD hvo ho hj
  have notpan : (S j).pan = none ∨ (S (j + 1)).pan = (S j).pan → (∀ v, (S (j + 1)).pan ≠ some (j, v)) → ∀ v, (S ops.size).pan ≠ some (j, v) := fun _ h v hv => by
    exact h v (C.panAt ops.size (Nat.le_refl _) hv).2.2
  have val_ok : ∀ {v : V}, opRun cf b (S p).m (opd (S j).ov (S j).vars) vo.op = some (.val v (S p').m) → wanted (S j).ov vo.guard = some true → valAt S j = v → (∀ v, (S (j + 1)).pan ≠ some (j, v)) → wpOp P ops Q j Kn a w := fun {v} hr hw hval hnp => by
    unfold wpOp
    simp only [ho, hwd hw, if_true]
    refine .inl (opRun_ok hcf G.goes.inv (hg.ext G.goes.ext) told hopOf (econg.trans hr) ?_)
    intro cv w' φ'' g'' hgo hrep
    exact hK _ _ p' φ'' g'' (G.after K hD hvo ho hj hk (fun v hv => hnp v (C.panAt ops.size (Nat.le_refl _) hv).2.2) hp' heffs hgo (opRun_pure hcp hr).1 (hval ▸ hrep))
  cases hs with
  | dead hd h' =>
    unfold dead at hd
    split at hd
    · cases hd
    · rename_i e v hpan
      have h1 := ready_pre G hD hj K.bits e hd
      have h2 := G.alive e v (by have := (C.grow j (ops.size - j) (by omega)).2.2 _ hpan; rwa [show j + (ops.size - j) = ops.size by omega] at this)
      rw [h1] at h2; cases h2
  | skip hw h' =>
    unfold wpOp
    simp only [ho, hwd hw, Bool.false_eq_true, if_false]
    have hval : valAt S j = .tup [] := by simp [valAt, h']
    have hm1 : (S (j + 1)).m = (S j).m := by rw [h']
    have hmm : (S p').m = (S p).m := by
      rcases hmem with ⟨_, rfl, h2⟩ | ⟨_, rfl⟩
      · rw [hm1, h2]
      · rfl
    refine hK _ _ p' φ' g' (G.after K hD hvo ho hj hk (fun v hv => ?_) hp' heffs (by rw [hmm]; exact Goes.refl G.goes.inv) (by rw [hmm]; exact Nat.le_refl _) (by rw [hval]; exact rep_skip))
    obtain ⟨_, h1, h2⟩ := C.panAt ops.size (Nat.le_refl _) hv
    rw [h'] at h2; rw [h1] at h2; cases h2
  | pure v hw hpu h' =>
    have hne : isEff vo.op = false := by cases h : isEff vo.op with | false => rfl | true => rw [eff_notPure h] at hpu; cases hpu
    have hpp : p' = p := hmem.elim (fun h => by rw [hne] at h; cases h.1) (fun h => h.2)
    refine val_ok (v := v) (by unfold opRun; rw [hpu, hpp]) hw (by simp [valAt, h']) fun v' hv => ?_
    have h2 := hv
    rw [h'] at h2
    have := (C.panAt (j + 1) (by omega) hv).2.1
    simp only at h2
    rw [this] at h2; cases h2
  | read v hw hpu hrd h' =>
    have hne : isEff vo.op = false := by cases h : isEff vo.op with | false => rfl | true => rw [eff_notRead h] at hrd; cases hrd
    have hpp : p' = p := hmem.elim (fun h => by rw [hne] at h; cases h.1) (fun h => h.2)
    have hag : agree d.pairs (S ops.size) := by
      unfold drawEnd at hend
      split at hend
      · assumption
      · cases hend
    have hlook : ∀ r ∈ rlv (opd (S j).ov (S j).vars) vo.op, look (S j).m r = look (S p).m r := fun r hr => by
      refine (mem_same G C (fun m => look m r) (Nat.le_of_lt hlt) fun q vo' hq hef hb => ?_).symm
      have hqlt : q < ops.size := by have := (List.getElem?_eq_some_iff.1 hq).1; rwa [C.len] at this
      obtain ⟨vo'', hq', _, hsq⟩ := C.oper q ops[q] (by simp [hqlt])
      rcases hsq.mem with h | h
      · rw [h]
      · have hqj : q ≠ j := fun e => by subst e; rw [hvo] at hq; cases hq; rw [hne] at hef; cases hef
        have nobit1 : ((preOf ops).getD j 0).testBit q = false := by
          cases hbit : ((preOf ops).getD j 0).testBit q with
          | false => rfl
          | true =>
            have hb1 := K.bits j q hbit
            have hl := ready_pre G hD hj K.bits q hbit
            have := (G.effs q vo' hq hef).1 hl
            omega
        have nobit2 : ((preOf ops).getD q 0).testBit j = false := by
          cases hbit : ((preOf ops).getD q 0).testBit j with
          | false => rfl
          | true =>
            have hb1 := K.bits q j hbit
            have hl := (G.effs q vo' hq hef).2 (by omega)
            have := G.down q hqlt hl j hbit
            rw [hjl] at this; cases this
        have hfree : free (preOf ops) j q = true := by
          simp only [free, nobit1, nobit2, Bool.not_false, Bool.and_true, bne_iff_ne, ne_eq]
          exact fun e => hqj e.symm
        have hpair := K.pairs j q vo vo' hvo hq (readOp_mayRead hrd) hef hfree
        have hread : (j, rlv (opd (S j).ov (S j).vars) vo.op) ∈ (S ops.size).reads := by
          have := (C.grow (j + 1) (ops.size - (j + 1)) (by omega)).1 (j, rlv (opd (S j).ov (S j).vars) vo.op) (by rw [h']; simp)
          rwa [show j + 1 + (ops.size - (j + 1)) = ops.size by omega] at this
        have heff : (q, (S q).m, (S (q + 1)).m) ∈ (S ops.size).effs := by
          have := (C.grow (q + 1) (ops.size - (q + 1)) (by omega)).2.1 _ h
          rwa [show q + 1 + (ops.size - (q + 1)) = ops.size by omega] at this
        exact hag _ hpair _ hread rfl _ heff rfl r hr
    have hrd' : readOp (S p).m (opd (S j).ov (S j).vars) vo.op = some v := (readOp_agree hlook).symm.trans hrd
    refine val_ok (v := v) (by unfold opRun; rw [hpu, hrd', hpp]) hw (by simp [valAt, h']) fun v' hv => ?_
    have h2 := hv
    rw [h'] at h2
    have := (C.panAt (j + 1) (by omega) hv).2.1
    simp only at h2
    rw [this] at h2; cases h2
  | eff v m' hw he hn hr h' =>
    have hpp : p' = j + 1 ∧ (S p).m = (S j).m := hmem.elim (fun h => h.2) (fun h => by rw [he] at h; cases h.1)
    refine val_ok (v := v) (by rw [hpp.1, hpp.2, hr, h']) hw (by simp [valAt, h']) fun v' hv => ?_
    rw [h'] at hv
    simp only at hv
    rw [hn] at hv; cases hv
  | pan v m' hw he hn hr h' =>
    have hpp : p' = j + 1 ∧ (S p).m = (S j).m := hmem.elim (fun h => h.2) (fun h => by rw [he] at h; cases h.1)
    unfold wpOp
    simp only [ho, hwd hw, if_true]
    have hr' : opRun cf b (S p).m (opd (S j).ov (S j).vars) vo.op = some (.pan v m') := by rw [hpp.2, hr]
    refine .inl (opRun_ok hcf G.goes.inv (hg.ext G.goes.ext) told hopOf (econg.trans hr') ?_)
    intro cv w' φ'' g'' hgo hrep
    -- the end
    have hpanN : (S ops.size).pan = some (j, v) := by
      have := (C.grow (j + 1) (ops.size - (j + 1)) (by omega)).2.2 (j, v) (by rw [h'])
      rwa [show j + 1 + (ops.size - (j + 1)) = ops.size by omega] at this
    have hmN : (S ops.size).m = m' := by
      have := C.same (fun m => m) (p := j + 1) (ops.size - (j + 1)) (by omega) fun q h1 h2 => by
        obtain ⟨vq, _, _, hsq⟩ := C.oper q ops[q] (by simp [show q < ops.size by omega])
        have hpq : (S q).pan = some (j, v) := by
          have := (C.grow (j + 1) (q - (j + 1)) (by omega)).2.2 (j, v) (by rw [h'])
          rwa [show j + 1 + (q - (j + 1)) = q by omega] at this
        cases hsq with
        | dead _ h' => rw [h']
        | skip _ h' => rw [h']
        | pure v _ _ h' => rw [h']
        | read v _ _ _ h' => rw [h']
        | eff v m' _ _ hn _ h' => rw [hpq] at hn; cases hn
        | pan v' m' _ _ hn _ h' => rw [hpq] at hn; cases hn
      rw [show j + 1 + (ops.size - (j + 1)) = ops.size by omega] at this
      rw [← this, h']
    unfold drawEnd at hend
    split at hend
    · rw [hpanN] at hend
      simp only [Option.some.injEq] at hend
      subst hend
      rw [hmN] at hq
      exact hq a w' φ'' g'' cv (G.goes.trans hgo G.long) G.tmps G.defers hrep
    · cases hend

theorem draw_end {wi : World} (hi0 : Inv w0 φ g m wi) (hv0 : VarsOK F φ g m vars a0) (K : Checked' F ops l d) (C : Canon P A F cf b ops l S vars m) {Q : Exit → Act → World → Prop} {rs : Rs} (hq : RsOK w0 φ g m F Q rs) (hend : drawEnd d.pairs (S ops.size) = some rs)
    {listed : Array Bool} {a : Act} {w : World} {p : Nat} {φ' : Phi} {g' : List GO} (G : Gone P w0 φ g m F ops l S a0 listed a w p φ' g') (hr : Region.ready .any ops listed = []) : Q .normal a w := by
  have hall := all_listed G K.bits hr
  have hpan : (S ops.size).pan = none := by
    cases hp : (S ops.size).pan with
    | none => rfl
    | some x => have := G.alive x.1 x.2 hp; rw [hall] at this; cases this
  unfold drawEnd at hend
  split at hend
  · rw [hpan] at hend
    simp only [Option.some.injEq] at hend
    subst hend
    have hm : (S p).m = (S ops.size).m := mem_same G C (fun m => m) (Nat.le_refl _) fun q vo hq he hb => by
      have h1 := (G.effs q vo hq he).1 (hall q)
      have := G.le
      omega
    have hgo := G.goes
    rw [hm] at hgo
    refine hq a w φ' g' hgo ⟨G.tmps, G.defers, fun t i hi => ?_⟩
    obtain ⟨h1, h2⟩ := C.var hi ops.size (Nat.le_refl _)
    cases hn : newest (dstsOf ops) t ops.size with
    | none =>
      rw [h1 hn, G.old t fun i hi _ => newest_none hn i hi]
      exact hgo.rep hi0 (hv0.2.2 t i hi)
    | some j =>
      obtain ⟨k1, k2, k3⟩ := newest_some hn
      rcases h2 j hn with e | e
      · rw [e, ← hm]
        exact G.last t j k1 (hall j) k2 fun i' q1 q2 _ => k3 i' q1 q2
      · rw [e]; exact rep_undef
  · cases hend

theorem draw_any (hcf : CFok P w0 A cf) (hcp : CFpure cf) (hD : Region.departs ops = false) {wi : World} (hi0 : Inv w0 φ g m wi) (hg : Globs A φ) (hv0 : VarsOK F φ g m vars a0)
    (K : Checked' F ops l d) (C : Canon P A F cf b ops l S vars m) {Q : Exit → Act → World → Prop} {rs : Rs} (hq : RsOK w0 φ g m F Q rs) (hend : drawEnd d.pairs (S ops.size) = some rs) :
    ∀ (fuel : Nat) (U : List Nat) (listed : Array Bool) (a : Act) (w : World) (p : Nat) (φ' : Phi) (g' : List GO), U.length ≤ fuel → (∀ i, listed.getD i true = false → i ∈ U) → Gone P w0 φ g m F ops l S a0 listed a w p φ' g' → wpAny P .any ops Q fuel listed a w
  | 0, U, listed, a, w, p, φ', g', hU, hm, G => by
    have hU : U = [] := List.length_eq_zero_iff.1 (by omega)
    subst hU
    have hr : Region.ready .any ops listed = [] := List.eq_nil_iff_forall_not_mem.2 fun j hj => by
      have := hm j (mem_ready.1 hj).1
      cases this
    exact ⟨hr, draw_end hi0 hv0 K C hq hend G hr⟩
  | fuel + 1, U, listed, a, w, p, φ', g', hU, hm, G => by
    refine ⟨fun hr => draw_end hi0 hv0 K C hq hend G hr, fun j hj => draw_step hcf hcp hD hi0 hg hv0 K C hq hend G hj fun a' w' p' φ'' g'' G' => ?_⟩
    have hjU := hm j (mem_ready.1 hj).1
    obtain ⟨_, o, ho, _⟩ := mem_ready.1 hj
    have hlt : j < listed.size := by rw [G.size]; exact (Array.getElem?_eq_some_iff.1 ho).1
    refine draw_any hcf hcp hD hi0 hg hv0 K C hq hend fuel (U.erase j) _ a' w' p' φ'' g'' (by rw [List.length_erase_of_mem hjU]; omega) (fun i hi => ?_) G'
    rw [getD_listed hlt] at hi
    by_cases e : i = j
    · simp [e] at hi
    · simp only [e, if_false] at hi
      exact (List.mem_erase_of_ne e).2 (hm i hi)

theorem Inv.drew {w : World} (hi : Inv w0 φ g m w) : Inv w0 φ g m { w with drawn := w.drawn + 1 } := by
  refine ⟨hi.len, hi.base.drew, hi.known, hi.cells, hi.iters, hi.maps, hi.rows, hi.own, hi.apart⟩

theorem draw_ok (hf : P.follows .mixedOrders = true) (hcf : CFok P w0 A cf) (hcp : CFpure cf) : DrawOK P w0 A F cf := by
  intro b id ops l d Q rs vars m g φ a w hl hD hd hx hi hg hv hq
  obtain ⟨s, h1, h2⟩ := obind hx
  have K := drawInfo_checked hd
  rw [K.pre] at h1
  obtain ⟨S, k1, k2, k3⟩ := runDraw_steps l 0 _ s h1
  obtain ⟨q1, q2⟩ := opersOf_get ops.toList [] l hl
  have hN : ops.size = l.length := by rw [q1]; simp
  have C : Canon P A F cf b ops l S vars m := by
    refine ⟨hN.symm, fun j o ho => ?_, by rw [k1]; exact ⟨rfl, rfl, rfl, rfl⟩⟩
    obtain ⟨vo, h3, h4⟩ := q2 j o (by simpa using ho)
    refine ⟨vo, h3, by simpa using h4, ?_⟩
    have := drawStep_case (k3 j vo h3)
    simpa using this
  rw [Nat.zero_add, ← hN] at k2
  refine wp_region_any hf (draw_any hcf hcp hD hi hg hv K C hq (by rw [k2]; exact h2) ops.size (List.range ops.size) _ a _ 0 φ g (by simp) (fun i hi => ?_) ?_)
  · by_cases hlt : i < ops.size
    · simpa using hlt
    · rw [Array.getD_eq_getD_getElem?, Array.getElem?_eq_none (by simpa using hlt)] at hi
      simp at hi
  · have no : ∀ i, i < ops.size → (Array.replicate ops.size false).getD i true = false := fun i hi => by simp [Array.getD_eq_getD_getElem?, hi]
    refine ⟨by simp, fun i hi hl => absurd hl (by rw [no i hi]; decide), fun e v hp => ?_, Nat.zero_le _, fun q vo hq _ => ?_, ?_, ?_, hv.1, hv.2.1, fun t i hi hl => absurd hl (by rw [no i hi]; decide), fun t _ => rfl⟩
    · exact no e (C.panAt ops.size (Nat.le_refl _) hp).1
    · have := (List.getElem?_eq_some_iff.1 hq).1
      rw [no q (by omega)]
      simp
    · rw [C.zero.2.2.1]; exact Goes.refl hi.drew
    · rw [C.zero.2.2.1]; exact Nat.le_refl _
end
end Go.Vm

namespace Go.Vm
open Go Go.RowKit
/-- THE SIMULATION: what the pure machine answers, the program does. -/
theorem call_ok {P : Program} {w0 : World} {A : Ann} {M : Machine'} (hf : P.follows .mixedOrders = true) (hM : MachOK P w0 A M) (n : Nat) : CFok P w0 A (callF M n) ∧ CFpure (callF M n) :=
  callF_ok hM (fun _ _ h1 h2 => draw_ok hf h1 h2) n
#print axioms call_ok
end Go.Vm
-- VmN: The pure machine without a count: what it answers with some number of rounds.
namespace Go.Vm
open Go Go.RowKit

/-! ### limits -/
def Up {α : Type} (s : Nat → Option α) : Prop := ∀ n x, s n = some x → s (n + 1) = some x

theorem Up.le {α : Type} {s : Nat → Option α} (h : Up s) {n k : Nat} (hk : n ≤ k) {x : α} (hx : s n = some x) : s k = some x := by
  induction hk with
  | refl => exact hx
  | step _ ih => exact h _ _ ih

open Classical in
noncomputable def lim {α : Type} (s : Nat → Option α) : Option α := if h : ∃ x n, s n = some x then some h.choose else none

theorem lim_iff {α : Type} {s : Nat → Option α} (h : Up s) (x : α) : lim s = some x ↔ ∃ n, s n = some x := by
  unfold lim
  split
  · rename_i he
    obtain ⟨n, hn⟩ := he.choose_spec
    constructor
    · intro e; cases e; exact ⟨n, hn⟩
    · rintro ⟨k, hk⟩
      have h1 := h.le (Nat.le_max_left n k) hn
      have h2 := h.le (Nat.le_max_right n k) hk
      rw [h1] at h2; exact h2
  · rename_i he
    constructor
    · intro e; cases e
    · rintro ⟨k, hk⟩; exact absurd ⟨x, k, hk⟩ he

theorem lim_const {α : Type} (o : Option α) : lim (fun _ => o) = o := by
  apply Option.ext; intro x
  rw [lim_iff (s := fun _ => o) (fun _ _ h => h)]
  exact ⟨fun ⟨_, h⟩ => h, fun h => ⟨0, h⟩⟩

theorem lim_bind {α β : Type} {s : Nat → Option α} {t : Nat → α → Option β} (hs : Up s) (ht : ∀ x, Up fun n => t n x) : lim (fun n => (s n).bind (t n)) = (lim s).bind fun x => lim fun n => t n x := by
  have hu : Up fun n => (s n).bind (t n) := fun n y h => by
    obtain ⟨x, h1, h2⟩ := obind h
    simp only [hs _ _ h1, Option.bind_some]
    exact ht x n y h2
  apply Option.ext; intro y
  rw [lim_iff hu]
  constructor
  · rintro ⟨n, h⟩
    obtain ⟨x, h1, h2⟩ := obind h
    rw [(lim_iff hs x).2 ⟨n, h1⟩, Option.bind_some]
    exact (lim_iff (ht x) y).2 ⟨n, h2⟩
  · intro h
    obtain ⟨x, h1, h2⟩ := obind h
    obtain ⟨n, h1⟩ := (lim_iff hs x).1 h1
    obtain ⟨k, h2⟩ := (lim_iff (ht x) y).1 h2
    refine ⟨max n k, ?_⟩
    rw [hs.le (Nat.le_max_left n k) h1, Option.bind_some]
    exact (ht x).le (Nat.le_max_right n k) h2

theorem Up.bind {α β : Type} {s : Nat → Option α} {t : Nat → α → Option β} (hs : Up s) (ht : ∀ x, Up fun n => t n x) : Up fun n => (s n).bind (t n) := fun n y h => by
  obtain ⟨x, h1, h2⟩ := obind h
  simp only [hs _ _ h1, Option.bind_some]
  exact ht x n y h2
theorem Up.const {α : Type} (o : Option α) : Up fun _ => o := fun _ _ h => h

/-! ### what hangs on calls -/
def CFle (cf cf' : CF) : Prop := ∀ f a m out, cf f a m = some out → cf' f a m = some out

/-- It asks calls for a finite part. -/
structure Cont {α : Type} (G : CF → Option α) : Prop where
  mono : ∀ cf cf', CFle cf cf' → ∀ x, G cf = some x → G cf' = some x
  comp : ∀ (C : Nat → CF) (c : CF), (∀ k, CFle (C k) (C (k + 1))) → (∀ f a m out, c f a m = some out → ∃ k, C k f a m = some out) → ∀ x, G c = some x → ∃ k, G (C k) = some x

theorem Cont.const {α : Type} (o : Option α) : Cont fun _ => o := ⟨fun _ _ _ _ h => h, fun _ _ _ _ _ h => ⟨0, h⟩⟩
theorem Cont.call (f : FuncId) (a : List V) (m : Mem) : Cont fun cf => cf f a m := ⟨fun _ _ h x hx => h f a m x hx, fun C c _ h x hx => h f a m x hx⟩

theorem chain_le {C : Nat → CF} (h : ∀ k, CFle (C k) (C (k + 1))) {n k : Nat} (hk : n ≤ k) : CFle (C n) (C k) := by
  induction hk with
  | refl => exact fun _ _ _ _ h => h
  | step _ ih => exact fun f a m out h' => h _ f a m out (ih f a m out h')

theorem Cont.bind {α β : Type} {H : CF → Option α} {K : CF → α → Option β} (h : Cont H) (k : ∀ x, Cont fun cf => K cf x) : Cont fun cf => (H cf).bind (K cf) := by
  refine ⟨fun cf cf' hle y hy => ?_, fun C c hC hc y hy => ?_⟩
  · obtain ⟨x, h1, h2⟩ := obind hy
    simp only [h.mono _ _ hle _ h1, Option.bind_some]
    exact (k x).mono _ _ hle _ h2
  · obtain ⟨x, h1, h2⟩ := obind hy
    obtain ⟨i, h1⟩ := h.comp C c hC hc x h1
    obtain ⟨j, h2⟩ := (k x).comp C c hC hc y h2
    refine ⟨max i j, ?_⟩
    simp only [h.mono _ _ (chain_le hC (Nat.le_max_left i j)) _ h1, Option.bind_some]
    exact (k x).mono _ _ (chain_le hC (Nat.le_max_right i j)) _ h2

theorem Cont.of_eq {α : Type} {G H : CF → Option α} (h : Cont H) (e : ∀ cf, G cf = H cf) : Cont G := by
  have : G = H := funext e
  rw [this]; exact h

theorem callOp_cont (m : Mem) (f : FuncId) (args : List V) : Cont fun cf => callOp cf m f args := by
  unfold callOp
  refine Cont.bind (Cont.const _) fun a => ?_
  refine (Cont.bind (Cont.call f a m) fun x => Cont.const (some (match x with | .ret vs m' => OpOut.val (retVal vs) m' | .pan v m' => .pan v m'))).of_eq fun cf => ?_
  cases cf f a m with
  | none => rfl
  | some x => cases x <;> rfl

theorem callgOp_cont (m : Mem) (sz : Nat) (f : FuncId) (args : List V) : Cont fun cf => callgOp cf m sz f args := by
  unfold callgOp
  refine Cont.bind (Cont.const _) fun p => ?_
  obtain ⟨args', m1⟩ := p
  cases args' with
  | nil => exact Cont.const _
  | cons x rest =>
    refine Cont.bind (Cont.const _) fun a => ?_
    refine (Cont.bind (Cont.call f (x :: a) m1) fun x => Cont.const (some (match x with | .ret vs m' => OpOut.val (retVal vs) m' | .pan v m' => .pan v m'))).of_eq fun cf => ?_
    show (cf f (x :: a) m1).map _ = _
    cases cf f (x :: a) m1 with
    | none => rfl
    | some x => cases x <;> rfl

theorem opRun_cont (b : Nat) (m : Mem) (e : Opd → V) (op : VOp) : Cont fun cf => opRun cf b m e op := by
  unfold opRun
  split
  · exact Cont.const _
  · split
    · exact Cont.const _
    · split
      · exact Cont.const _
      · split
        · exact callOp_cont _ _ _
        · split
          · exact callOp_cont _ _ _
          · exact Cont.const _
        · exact callgOp_cont _ _ _ _
        · split <;> exact Cont.const _
        · exact Cont.const _

theorem runOps_cont (b : Nat) : ∀ (l : List VOper) (ov vars : List V) (m : Mem), Cont fun cf => runOps cf b l ov vars m
  | [], ov, vars, m => Cont.const _
  | o :: l, ov, vars, m => by
    simp only [runOps]
    split
    · refine (Cont.bind (opRun_cont b m (opd ov vars) o.op) (K := fun cf x => match x with | .val v m' => runOps cf b l (v :: ov) (setv vars o.dst v) m' | .pan v m' => some (.pan v m')) fun x => ?_).of_eq fun cf => ?_
      · cases x with
        | val v m' => exact runOps_cont b l _ _ _
        | pan v m' => exact Cont.const _
      · cases opRun cf b m (opd ov vars) o.op with
        | none => rfl
        | some x => cases x <;> rfl
    · exact runOps_cont b l _ _ _
    · exact Cont.const _

theorem drawStep_cont (b : Nat) (pre : List Nat) (i : Nat) (o : VOper) (s : DS) : Cont fun cf => drawStep cf b pre i o s := by
  unfold drawStep
  split
  · exact Cont.const _
  · split
    · exact Cont.const _
    · exact Cont.const _
    · split
      · exact Cont.const _
      · split
        · exact Cont.const _
        · split
          · exact Cont.const _
          · refine (Cont.bind (opRun_cont b s.m (opd s.ov s.vars) o.op) fun x => Cont.const (some (match x with
              | .val v m' => { s with ov := v :: s.ov, vars := setv s.vars o.dst v, m := m', effs := (i, s.m, m') :: s.effs }
              | .pan v m' => { s with ov := .undef :: s.ov, vars := setv s.vars o.dst .undef, m := m', pan := some (i, v), effs := (i, s.m, m') :: s.effs }))).of_eq fun cf => ?_
            cases opRun cf b s.m (opd s.ov s.vars) o.op with
            | none => rfl
            | some x => cases x <;> rfl

theorem runDraw_cont (b : Nat) (pre : List Nat) : ∀ (l : List VOper) (i : Nat) (s : DS), Cont fun cf => runDraw cf b pre i l s
  | [], i, s => Cont.const _
  | o :: l, i, s => Cont.bind (drawStep_cont b pre i o s) fun x => runDraw_cont b pre l (i + 1) x

/-- What follows a piece of code that has come to its end. -/
def thenRs (k : List V → Mem → Option Rs) : Rs → Option Rs
  | .nrm vars m => k vars m
  | r => some r
def blockRs (id : Nat) : Rs → Rs
  | .exit id' vars m => if id' = id then .nrm vars m else .exit id' vars m
  | r => r

theorem exec_seq (cf : CF) (b n : Nat) (x y : VC) (vars : List V) (m : Mem) : exec cf b n (.seq x y) vars m = (exec cf b n x vars m).bind (thenRs (exec cf b n y)) := by
  simp only [exec]
  cases exec cf b n x vars m with
  | none => rfl
  | some r => cases r <;> rfl
theorem exec_block (cf : CF) (b n id : Nat) (x : VC) (vars : List V) (m : Mem) : exec cf b n (.block id x) vars m = (exec cf b n x vars m).map (blockRs id) := by
  simp only [exec]
  cases exec cf b n x vars m with
  | none => rfl
  | some r =>
    cases r <;> try rfl
    simp only [Option.map_some, blockRs]; split <;> rfl
theorem rounds_succ' (b L : Nat) (kill : List Nat) (f : List V → Mem → Option Rs) (n : Nat) (vars : List V) (m : Mem) :
    rounds b L kill f (n + 1) vars m = (fresh b L kill vars m).bind fun (vars, m) => (f vars m).bind (thenRs (rounds b L kill f n)) := by
  simp only [rounds]
  cases fresh b L kill vars m with
  | none => rfl
  | some p =>
    simp only [Option.bind_some]
    cases f p.1 p.2 with
    | none => rfl
    | some r => cases r <;> rfl

theorem rounds_cont (b L : Nat) (kill : List Nat) {f : CF → List V → Mem → Option Rs} (hf : ∀ vars m, Cont fun cf => f cf vars m) : ∀ (n : Nat) (vars : List V) (m : Mem), Cont fun cf => rounds b L kill (f cf) n vars m
  | 0, vars, m => Cont.const _
  | n + 1, vars, m => by
    refine Cont.of_eq ?_ fun cf => rounds_succ' b L kill (f cf) n vars m
    refine Cont.bind (Cont.const _) fun p => Cont.bind (hf _ _) fun r => ?_
    cases r with
    | nrm vars m => exact rounds_cont b L kill hf n vars m
    | exit => exact Cont.const _
    | ret => exact Cont.const _
    | pan => exact Cont.const _

theorem exec_cont (b n : Nat) : ∀ (c : VC) (vars : List V) (m : Mem), Cont fun cf => exec cf b n c vars m
  | .skip, vars, m => Cont.const _
  | .reg ops, vars, m => runOps_cont b ops [] vars m
  | .draw ops d, vars, m => Cont.bind (runDraw_cont b d.pre ops 0 _) fun x => Cont.const _
  | .seq x y, vars, m => by
    refine Cont.of_eq (Cont.bind (exec_cont b n x vars m) fun r => ?_) fun cf => exec_seq cf b n x y vars m
    cases r with
    | nrm vars m => exact exec_cont b n y vars m
    | exit => exact Cont.const _
    | ret => exact Cont.const _
    | pan => exact Cont.const _
  | .cond c x y, vars, m => by
    simp only [exec]
    split
    · exact exec_cont b n x vars m
    · exact exec_cont b n y vars m
    · exact Cont.const _
  | .block id c, vars, m => by
    refine Cont.of_eq (Cont.bind (exec_cont b n c vars m) fun r => Cont.const (some (blockRs id r))) fun cf => ?_
    rw [exec_block]
    cases exec cf b n c vars m <;> rfl
  | .loop kill c, vars, m => rounds_cont b m.length kill (fun vars m => exec_cont b n c vars m) n vars m
  | .exit id, vars, m => Cont.const _
  | .ret, vars, m => Cont.const _

/-! ### more rounds -/
theorem rounds_up (b L : Nat) (kill : List Nat) {f f' : List V → Mem → Option Rs} (hf : ∀ vars m r, f vars m = some r → f' vars m = some r) : ∀ (n : Nat) (vars : List V) (m : Mem) (r : Rs), rounds b L kill f n vars m = some r → rounds b L kill f' (n + 1) vars m = some r
  | 0, vars, m, r, h => by simp [rounds] at h
  | n + 1, vars, m, r, h => by
    rw [rounds_succ'] at h ⊢
    obtain ⟨p, h1, h⟩ := obind h
    obtain ⟨q, h2, h⟩ := obind h
    rw [h1, Option.bind_some]
    simp only [hf _ _ _ h2, Option.bind_some]
    cases q with
    | nrm vars m => exact rounds_up b L kill hf n vars m r h
    | exit => exact h
    | ret => exact h
    | pan => exact h

theorem rounds_f (b L : Nat) (kill : List Nat) {f f' : List V → Mem → Option Rs} (hf : ∀ vars m r, f vars m = some r → f' vars m = some r) : ∀ (n : Nat) (vars : List V) (m : Mem) (r : Rs), rounds b L kill f n vars m = some r → rounds b L kill f' n vars m = some r
  | 0, vars, m, r, h => by simp [rounds] at h
  | n + 1, vars, m, r, h => by
    rw [rounds_succ'] at h ⊢
    obtain ⟨p, h1, h⟩ := obind h
    obtain ⟨q, h2, h⟩ := obind h
    rw [h1, Option.bind_some]
    simp only [hf _ _ _ h2, Option.bind_some]
    cases q with
    | nrm vars m => exact rounds_f b L kill hf n vars m r h
    | exit => exact h
    | ret => exact h
    | pan => exact h

theorem exec_up (cf : CF) (b : Nat) : ∀ (c : VC) (vars : List V) (m : Mem), Up fun n => exec cf b n c vars m
  | .skip, vars, m => fun _ _ h => h
  | .reg ops, vars, m => fun _ _ h => h
  | .draw ops d, vars, m => fun _ _ h => h
  | .seq x y, vars, m => fun n r h => by
    simp only [exec_seq] at h ⊢
    obtain ⟨q, h1, h⟩ := obind h
    rw [show exec cf b (n + 1) x vars m = some q from exec_up cf b x vars m n q h1, Option.bind_some]
    cases q with
    | nrm vars m => exact exec_up cf b y vars m n r h
    | exit => exact h
    | ret => exact h
    | pan => exact h
  | .cond c x y, vars, m => fun n r h => by
    simp only [exec] at h ⊢
    split at h
    · exact exec_up cf b x vars m n r h
    · exact exec_up cf b y vars m n r h
    · cases h
  | .block id c, vars, m => fun n r h => by
    simp only [exec_block] at h ⊢
    obtain ⟨q, h1, rfl⟩ := omap h
    rw [show exec cf b (n + 1) c vars m = some q from exec_up cf b c vars m n q h1]; rfl
  | .loop kill c, vars, m => fun n r h => by
    simp only [exec] at h ⊢
    exact rounds_up b m.length kill (fun vars m r => exec_up cf b c vars m n r) n vars m r h
  | .exit id, vars, m => fun _ _ h => h
  | .ret, vars, m => fun _ _ h => h

theorem callF_succ (M : Machine') (n : Nat) (f : FuncId) (args : List V) (m : Mem) : callF M (n + 1) f args m = match M.prims f with
    | some g => g args m
    | none => match M.funs f with
      | some F => if args.length = F.params then (exec (callF M n) m.length n F.body (enter F args) m).bind (leave m.length F.res) else none
      | none => none := rfl

theorem callF_up (M : Machine') : ∀ n, CFle (callF M n) (callF M (n + 1))
  | 0 => fun f a m out h => by simp [callF] at h
  | n + 1 => fun f a m out h => by
    have ih := callF_up M n
    rw [callF_succ] at h ⊢
    cases hp : M.prims f with
    | some g => rw [hp] at h; exact h
    | none =>
      rw [hp] at h
      cases hF : M.funs f with
      | none => rw [hF] at h; cases h
      | some F =>
        rw [hF] at h
        simp only at h ⊢
        split at h
        · rename_i hl
          rw [if_pos hl]
          obtain ⟨rs, h1, h2⟩ := obind h
          have h3 := (exec_cont m.length n F.body (enter F a) m).mono _ _ ih rs h1
          have h4 := exec_up (callF M (n + 1)) m.length F.body (enter F a) m n rs h3
          rw [show exec (callF M (n + 1)) m.length (n + 1) F.body (enter F a) m = some rs from h4]
          exact h2
        · cases h

/-- A call. -/
noncomputable def callL (M : Machine') : CF := fun f args m => lim fun n => callF M n f args m

theorem callL_iff (M : Machine') (f : FuncId) (args : List V) (m : Mem) (out : Out) : callL M f args m = some out ↔ ∃ n, callF M n f args m = some out :=
  lim_iff (fun n x h => callF_up M n f args m x h) out

/-- A piece of code. -/
noncomputable def ex (cf : CF) (b : Nat) (c : VC) (vars : List V) (m : Mem) : Option Rs := lim fun n => exec cf b n c vars m

theorem ex_iff (cf : CF) (b : Nat) (c : VC) (vars : List V) (m : Mem) (rs : Rs) : ex cf b c vars m = some rs ↔ ∃ n, exec cf b n c vars m = some rs :=
  lim_iff (exec_up cf b c vars m) rs

/-- A loop at its start. -/
noncomputable def loopL (cf : CF) (b L : Nat) (kill : List Nat) (c : VC) (vars : List V) (m : Mem) : Option Rs := lim fun n => rounds b L kill (exec cf b n c) n vars m

section
variable (cf : CF) (b : Nat) (vars : List V) (m : Mem)
theorem ex_skip : ex cf b .skip vars m = some (.nrm vars m) := lim_const _
theorem ex_reg (ops : List VOper) : ex cf b (.reg ops) vars m = runOps cf b ops [] vars m := lim_const _
theorem ex_draw (ops : List VOper) (d : DI) : ex cf b (.draw ops d) vars m = (runDraw cf b d.pre 0 ops { ov := [], vars, m }).bind (drawEnd d.pairs) := lim_const _
theorem ex_exit (id : Nat) : ex cf b (.exit id) vars m = some (.exit id vars m) := lim_const _
theorem ex_ret : ex cf b .ret vars m = some (.ret vars m) := lim_const _
theorem up_then (y : VC) (r : Rs) : Up fun n => thenRs (exec cf b n y) r := fun n x h => by
  cases r with
  | nrm vars m => exact exec_up cf b y vars m n x h
  | exit => exact h
  | ret => exact h
  | pan => exact h
theorem ex_seq (x y : VC) : ex cf b (.seq x y) vars m = (ex cf b x vars m).bind (thenRs (ex cf b y)) := by
  unfold ex
  simp only [exec_seq]
  rw [lim_bind (exec_up cf b x vars m) (up_then cf b y)]
  congr 1
  funext r
  cases r with
  | nrm vars m => rfl
  | exit => exact lim_const _
  | ret => exact lim_const _
  | pan => exact lim_const _
theorem ex_cond (c : Opd) (x y : VC) : ex cf b (.cond c x y) vars m = match opd [] vars c with | .bool true => ex cf b x vars m | .bool false => ex cf b y vars m | _ => none := by
  unfold ex
  simp only [exec]
  generalize opd [] vars c = t
  cases t <;> first | exact lim_const _ | (rename_i t; cases t <;> rfl)
theorem ex_block (id : Nat) (x : VC) : ex cf b (.block id x) vars m = (ex cf b x vars m).map (blockRs id) := by
  apply Option.ext; intro r
  rw [ex_iff]
  simp only [exec_block, Option.map_eq_some_iff]
  constructor
  · rintro ⟨n, q, h1, h2⟩; exact ⟨q, (ex_iff ..).2 ⟨n, h1⟩, h2⟩
  · rintro ⟨q, h1, h2⟩; obtain ⟨n, h1⟩ := (ex_iff ..).1 h1; exact ⟨n, q, h1, h2⟩
theorem ex_loop (kill : List Nat) (c : VC) : ex cf b (.loop kill c) vars m = loopL cf b m.length kill c vars m := rfl
theorem loop_up (L : Nat) (kill : List Nat) (c : VC) (vars : List V) (m : Mem) : Up fun n => rounds b L kill (exec cf b n c) n vars m := fun n r h =>
  rounds_up b L kill (fun vars m r => exec_up cf b c vars m n r) n vars m r h
theorem loop_eq (L : Nat) (kill : List Nat) (c : VC) : loopL cf b L kill c vars m = (fresh b L kill vars m).bind fun p => (ex cf b c p.1 p.2).bind (thenRs (loopL cf b L kill c)) := by
  have hup : ∀ r, Up fun n => thenRs (rounds b L kill (exec cf b n c) n) r := fun r n x h => by
    cases r with
    | nrm vars m => exact loop_up cf b L kill c vars m n x h
    | exit => exact h
    | ret => exact h
    | pan => exact h
  apply Option.ext; intro r
  unfold loopL
  rw [lim_iff (loop_up cf b L kill c vars m)]
  constructor
  · rintro ⟨n, h⟩
    cases n with
    | zero => simp [rounds] at h
    | succ n =>
      rw [rounds_succ'] at h
      obtain ⟨p, h1, h⟩ := obind h
      obtain ⟨q, h2, h⟩ := obind h
      rw [h1, Option.bind_some, (ex_iff ..).2 ⟨n + 1, h2⟩, Option.bind_some]
      cases q with
      | nrm vars m => 
        refine (lim_iff (loop_up cf b L kill c vars m) r).2 ⟨n + 1, ?_⟩
        have h : rounds b L kill (exec cf b (n + 1) c) n vars m = some r := h
        exact rounds_up b L kill (fun _ _ _ h => h) n vars m r h
      | exit => exact h
      | ret => exact h
      | pan => exact h
  · intro h
    obtain ⟨p, h1, h⟩ := obind h
    obtain ⟨q, h2, h⟩ := obind h
    obtain ⟨n, h2⟩ := (ex_iff ..).1 h2
    have key : ∃ k, thenRs (rounds b L kill (exec cf b k c) k) q = some r := by
      cases q with
      | nrm vars m => exact (lim_iff (loop_up cf b L kill c vars m) r).1 h
      | exit => exact ⟨0, h⟩
      | ret => exact ⟨0, h⟩
      | pan => exact ⟨0, h⟩
    obtain ⟨k, h3⟩ := key
    refine ⟨max n k + 1, ?_⟩
    rw [rounds_succ', h1, Option.bind_some]
    obtain ⟨pv, pm⟩ := p
    simp only at h2 ⊢
    have h4 := (exec_up cf b c pv pm).le (show n ≤ max n k + 1 by omega) h2
    rw [show exec cf b (max n k + 1) c pv pm = some q from h4, Option.bind_some]
    have h5 := (hup q).le (Nat.le_max_right n k) h3
    cases q with
    | nrm vars m =>
      exact rounds_f b L kill (fun vars m r h => exec_up cf b c vars m (max n k) r h) (max n k) vars m r h5
    | exit => exact h5
    | ret => exact h5
    | pan => exact h5

theorem call_eq (M : Machine') (f : FuncId) (args : List V) (F : VFun) (hp : M.prims f = none) (hF : M.funs f = some F) (hl : args.length = F.params) :
    callL M f args m = (ex (callL M) m.length F.body (enter F args) m).bind (leave m.length F.res) := by
  apply Option.ext; intro out
  rw [callL_iff]
  constructor
  · rintro ⟨n, h⟩
    cases n with
    | zero => simp [callF] at h
    | succ n =>
      simp only [callF, hp, hF, hl, if_true] at h
      obtain ⟨rs, h1, h2⟩ := obind h
      have h3 := (exec_cont m.length n F.body (enter F args) m).mono _ (callL M) (fun f a m out h => (callL_iff M f a m out).2 ⟨n, h⟩) rs h1
      rw [(ex_iff ..).2 ⟨n, h3⟩, Option.bind_some]; exact h2
  · intro h
    obtain ⟨rs, h1, h2⟩ := obind h
    obtain ⟨n, h1⟩ := (ex_iff ..).1 h1
    obtain ⟨k, h3⟩ := (exec_cont m.length n F.body (enter F args) m).comp (callF M) (callL M) (callF_up M) (fun f a m out h => (callL_iff M f a m out).1 h) rs h1
    refine ⟨max n k + 1, ?_⟩
    simp only [callF, hp, hF, hl, if_true]
    have h4 := (exec_cont m.length n F.body (enter F args) m).mono _ _ (chain_le (callF_up M) (Nat.le_max_right n k)) rs h3
    have h5 := (exec_up (callF M (max n k)) m.length F.body (enter F args) m).le (Nat.le_max_left n k) h4
    have h5 : exec (callF M (max n k)) m.length (max n k) F.body (enter F args) m = some rs := h5
    rw [h5, Option.bind_some]; exact h2

theorem call_prim (M : Machine') (f : FuncId) (args : List V) (p : List V → Mem → Option Out) (hp : M.prims f = some p) : callL M f args m = p args m := by
  apply Option.ext; intro out
  rw [callL_iff]
  constructor
  · rintro ⟨n, h⟩
    cases n with
    | zero => simp [callF] at h
    | succ n => simpa [callF, hp] using h
  · intro h; exact ⟨1, by simpa [callF, hp] using h⟩
end

/-- What a call of the pure machine answers, the program does. -/
theorem callL_ok {P : Program} {w0 : World} {A : Ann} {M : Machine'} (hf : P.follows .mixedOrders = true) (hM : MachOK P w0 A M) : CFok P w0 A (callL M) := by
  intro f args m out h
  obtain ⟨n, h⟩ := (callL_iff M f args m out).1 h
  exact (call_ok hf hM n).1 f args m out h
end Go.Vm
