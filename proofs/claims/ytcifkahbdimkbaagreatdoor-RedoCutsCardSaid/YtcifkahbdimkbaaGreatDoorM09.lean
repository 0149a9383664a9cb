/- Part 9 of the ground under the rows: Laws of memory, for walks in the pure machine. -/
import Derived.Test.YtcifkahbdimkbaaGreatDoorM08
import Derived.Laws.Bits64
set_option linter.unusedSimpArgs false
set_option linter.unusedVariables false
-- VmSimp: Laws of memory, for walks in the pure machine.
namespace Go.Vm
open Go

theorem vgetD_z {a d : V} {l : List V} : (a :: l).getD 0 d = a := rfl
theorem vgetD_s {a d : V} {l : List V} {n : Nat} : (a :: l).getD (n + 1) d = l.getD n d := rfl
section
variable {α : Type}
theorem upd_len {o : α} {r : Nat} : ∀ (m : List α), (upd m r o).length = m.length
  | [] => rfl
  | y :: m => by simp only [upd]; split <;> simp [upd_len m]
theorem look_upd {r : Nat} {o : α} : ∀ {m : List α}, r < m.length → look (upd m r o) r = some o
  | [], h => by cases h
  | x :: m, h => by
    simp only [upd]
    split
    · rename_i e; simp only [look, e, if_true]
    · rename_i e
      have hl : r < m.length := by simp at h; omega
      simp only [look, upd_len, e, if_false]
      exact look_upd hl
theorem look_upd_other {r s : Nat} {o : α} (h : s ≠ r) : ∀ {m : List α}, look (upd m r o) s = look m s
  | [] => rfl
  | x :: m => by
    simp only [upd]
    split
    · rename_i e
      have hne : ¬ s = m.length := by omega
      simp only [look, hne, if_false]
    · simp only [look, upd_len, look_upd_other h (m := m)]
theorem upd_upd {r : Nat} {o o' : α} : ∀ (m : List α), upd (upd m r o) r o' = upd m r o'
  | [] => rfl
  | x :: m => by
    simp only [upd]
    split
    · rename_i e; simp only [upd, e, if_true]
    · rename_i e; simp only [upd, upd_len, e, if_false, upd_upd m]
theorem upd_comm {r s : Nat} {o o' : α} (h : r ≠ s) : ∀ (m : List α), upd (upd m r o) s o' = upd (upd m s o') r o
  | [] => rfl
  | x :: m => by
    simp only [upd]
    by_cases e1 : r = m.length
    · have e2 : ¬ s = m.length := by omega
      simp only [e1, e2, if_true, if_false, upd, upd_len]
    · by_cases e2 : s = m.length
      · simp only [e1, e2, if_true, if_false, upd, upd_len]
      · simp only [e1, e2, if_false, upd, upd_len, upd_comm h m]
theorem upd_self {r : Nat} {o : α} : ∀ {m : List α}, look m r = some o → upd m r o = m
  | [], _ => rfl
  | x :: m, h => by
    simp only [look] at h
    simp only [upd]
    split
    · rename_i e; simp only [e, if_true] at h; cases h; rfl
    · rename_i e; simp only [e, if_false] at h; rw [upd_self h]
end
theorem wrap64_id {n : Int} (h : -9223372036854775808 ≤ n) (h' : n ≤ 9223372036854775807) : IntKind.i64.wrap n = n := by
  rw [IntKind.wrap_i64]; omega
theorem dropTo_len {m : Mem} {L : Nat} (h : m.length ≤ L) : dropTo L m = m := dropTo_of_le h
theorem objsOK_self {b L : Nat} : ∀ {m : Mem}, m.length ≤ b → objsOK b L m = true
  | [], _ => rfl
  | o :: m, h => by
    simp only [objsOK]
    rw [if_pos (by simp at h; omega)]

theorem fresh_flat {b : Nat} {kill : List Nat} {vars : List V} {m : Mem} (hm : m.length = b) (hu : V.underL b (killed kill vars) = true) : fresh b b kill vars m = some (killed kill vars, m) := by
  unfold fresh
  rw [hu, objsOK_self (Nat.le_of_eq hm), dropTo_len (Nat.le_of_eq hm)]
  rfl

theorem fresh_one {b : Nat} {kill : List Nat} {vars : List V} {o : O} {m : Mem} (hm : m.length = b) (hu : V.underL b (killed kill vars) = true) : fresh b b kill vars (o :: m) = some (killed kill vars, m) := by
  have h1 : objsOK b b (o :: m) = true := by
    simp only [objsOK]
    rw [if_neg (by omega), objsOK_self (Nat.le_of_eq hm)]
    simp [hm]
  have h2 : dropTo b (o :: m) = m := by
    simp only [dropTo]
    rw [if_neg (by omega), dropTo_len (Nat.le_of_eq hm)]
  unfold fresh
  rw [hu, h1, h2]
  rfl
theorem look_cons_old {o : O} {m : Mem} {r : Nat} (h : r < m.length) : look (o :: m) r = look m r := by
  simp only [look]; rw [if_neg (by omega)]
theorem look_cons_new {o : O} {m : Mem} : look (o :: m) m.length = some o := by simp [look]
theorem upd_cons_old {o o' : O} {m : Mem} {r : Nat} (h : r < m.length) : upd (o :: m) r o' = o :: upd m r o' := by
  simp only [upd]; rw [if_neg (by omega)]
theorem upd_cons_new {o o' : O} {m : Mem} : upd (o :: m) m.length o' = o' :: m := by simp [upd]
theorem drawEnd_ok {pairs : List (Nat × Nat)} {s : DS} (h : agree pairs s) (hp : s.pan = none) : drawEnd pairs s = some (.nrm s.vars s.m) := by
  unfold drawEnd; rw [if_pos h, hp]
theorem drawEnd_nil {s : DS} (hp : s.pan = none) : drawEnd [] s = some (.nrm s.vars s.m) := drawEnd_ok (fun p hp => by cases hp) hp
end Go.Vm
-- VmSimp2: Walks in the pure machine: the rules that simp uses, and loops.
namespace Go.Vm
open Go
attribute [simp] vgetD_z vgetD_s ex_seq ex_reg ex_ret ex_skip ex_exit ex_block ex_draw ex_loop ex_cond dead wanted opRun pureOp readOp effOp opd thenRs blockRs setv part binV binInt leave ressOf resOf V.shut V.sealL V.under V.underL bounds sliceV okMax enter retVal killed rlv V.lvls upd_len look_upd callOp withBufs

@[simp] theorem fits_bool {n : Nat} {b} : V.fits n (.bool b) = (n == 1) := rfl
@[simp] theorem cells_bool {b} : V.cells (.bool b) = [.bool b] := rfl
@[simp] theorem fits_int {n : Nat} {k} {x} : V.fits n (.int k x) = (n == 1) := rfl
@[simp] theorem cells_int {k} {x} : V.cells (.int k x) = [.int k x] := rfl
@[simp] theorem fits_str {n : Nat} {s} : V.fits n (.str s) = (n == 1) := rfl
@[simp] theorem cells_str {s} : V.cells (.str s) = [.str s] := rfl
@[simp] theorem fits_nilp {n : Nat}  : V.fits n (.nilp) = (n == 1) := rfl
@[simp] theorem cells_nilp  : V.cells (.nilp) = [.nilp] := rfl
@[simp] theorem fits_ptr {n : Nat} {r} {o} : V.fits n (.ptr r o) = (n == 1) := rfl
@[simp] theorem cells_ptr {r} {o} : V.cells (.ptr r o) = [.ptr r o] := rfl
@[simp] theorem fits_ep {n : Nat} {x} {o} : V.fits n (.ep x o) = (n == 1) := rfl
@[simp] theorem cells_ep {x} {o} : V.cells (.ep x o) = [.ep x o] := rfl
@[simp] theorem fits_sl {n : Nat} {a} {b} {c} : V.fits n (.sl a b c) = (n == 1) := rfl
@[simp] theorem cells_sl {a} {b} {c} : V.cells (.sl a b c) = [.sl a b c] := rfl
@[simp] theorem fits_gs {n : Nat} {a} {b} : V.fits n (.gs a b) = (n == 1) := rfl
@[simp] theorem cells_gs {a} {b} : V.cells (.gs a b) = [.gs a b] := rfl
@[simp] theorem fits_fn {n : Nat} {a} {b} {c} : V.fits n (.fn a b c) = (n == 1) := rfl
@[simp] theorem cells_fn {a} {b} {c} : V.cells (.fn a b c) = [.fn a b c] := rfl
@[simp] theorem fits_nilf {n : Nat}  : V.fits n (.nilf) = (n == 1) := rfl
@[simp] theorem cells_nilf  : V.cells (.nilf) = [.nilf] := rfl
@[simp] theorem fits_ifc {n : Nat} {a} {b} : V.fits n (.ifc a b) = (n == 1) := rfl
@[simp] theorem cells_ifc {a} {b} : V.cells (.ifc a b) = [.ifc a b] := rfl
@[simp] theorem fits_nili {n : Nat}  : V.fits n (.nili) = (n == 1) := rfl
@[simp] theorem cells_nili  : V.cells (.nili) = [.nili] := rfl
@[simp] theorem fits_nilm {n : Nat}  : V.fits n (.nilm) = (n == 1) := rfl
@[simp] theorem cells_nilm  : V.cells (.nilm) = [.nilm] := rfl
@[simp] theorem fits_mp {n : Nat} {a} {b} : V.fits n (.mp a b) = (n == 1) := rfl
@[simp] theorem cells_mp {a} {b} : V.cells (.mp a b) = [.mp a b] := rfl
@[simp] theorem fits_gm {n : Nat} {a} : V.fits n (.gm a) = (n == 1) := rfl
@[simp] theorem cells_gm {a} : V.cells (.gm a) = [.gm a] := rfl
@[simp] theorem fits_agg {n : Nat} {cs : List V} : V.fits n (.agg cs) = (cs.length == n) := rfl
@[simp] theorem cells_agg {cs : List V} : V.cells (.agg cs) = cs := rfl

/-- What follows an operation: laid so that no step of a walk is left to the kernel to find. -/
def afterOp (cf : CF) (b : Nat) (r : List VOper) (ov vars : List V) (dst : Option Nat) : Option OpOut → Option Rs
  | some (.val v m) => runOps cf b r (v :: ov) (setv vars dst v) m
  | some (.pan v m) => some (.pan v m)
  | none => none
section
variable {cf : CF} {b : Nat} {r : List VOper} {ov vars : List V} {m : Mem}
theorem runOps_nil : runOps cf b [] ov vars m = some (.nrm vars m) := by unfold runOps; exact id rfl
theorem runOps_plain {dst : Option Nat} {op : VOp} : runOps cf b (⟨dst, op, none⟩ :: r) ov vars m = afterOp cf b r ov vars dst (opRun cf b m (opd ov vars) op) := by
  simp only [runOps, wanted]
  cases opRun cf b m (opd ov vars) op with
  | none => rfl
  | some x => cases x <;> rfl
theorem runOps_go {dst : Option Nat} {op : VOp} {g : Nat × Bool} (h : wanted ov (some g) = some true) : runOps cf b (⟨dst, op, some g⟩ :: r) ov vars m = afterOp cf b r ov vars dst (opRun cf b m (opd ov vars) op) := by
  simp only [runOps, h]
  cases opRun cf b m (opd ov vars) op with
  | none => rfl
  | some x => cases x <;> rfl
theorem runOps_pass {dst : Option Nat} {op : VOp} {g : Nat × Bool} (h : wanted ov (some g) = some false) : runOps cf b (⟨dst, op, some g⟩ :: r) ov vars m = runOps cf b r (.tup [] :: ov) (setv vars dst .undef) m := by
  simp only [runOps, h]
theorem afterOp_val {dst : Option Nat} {v : V} : afterOp cf b r ov vars dst (some (.val v m)) = runOps cf b r (v :: ov) (setv vars dst v) m := by unfold afterOp; exact id rfl
theorem afterOp_pan {dst : Option Nat} {v : V} : afterOp cf b r ov vars dst (some (.pan v m)) = some (.pan v m) := by unfold afterOp; exact id rfl
end
theorem bind_go {α β : Type} {x : α} {f : α → Option β} : (some x).bind f = f x := by cases h : f x <;> simp [h]

/-- What follows a step of a region whose order is drawn. -/
def afterDraw (cf : CF) (b : Nat) (pre : List Nat) (i : Nat) (r : List VOper) : Option DS → Option DS
  | some s => runDraw cf b pre (i + 1) r s
  | none => none
section
variable {cf : CF} {b : Nat} {pre : List Nat} {i : Nat} {o : VOper} {r : List VOper} {s : DS}
theorem runDraw_nil : runDraw cf b pre i [] s = some s := by unfold runDraw; exact id rfl
theorem runDraw_cons : runDraw cf b pre i (o :: r) s = afterDraw cf b pre i r (drawStep cf b pre i o s) := by
  simp only [runDraw]
  cases drawStep cf b pre i o s <;> rfl
theorem afterDraw_some : afterDraw cf b pre i r (some s) = runDraw cf b pre (i + 1) r s := by unfold afterDraw; exact id rfl
end
/-! no effect changes what a read sees, as simp asks it -/
def agree3 (a b : Mem) : List Nat → Prop
  | [] => True
  | r :: rs => look a r = look b r ∧ agree3 a b rs
def agree2 (q : Nat) (rs : List Nat) : List (Nat × Mem × Mem) → Prop
  | [] => True
  | ef :: es => (if ef.1 = q then agree3 ef.2.1 ef.2.2 rs else True) ∧ agree2 q rs es
def agree1 (p : Nat × Nat) (effs : List (Nat × Mem × Mem)) : List (Nat × List Nat) → Prop
  | [] => True
  | rd :: rs => (if rd.1 = p.1 then agree2 p.2 rd.2 effs else True) ∧ agree1 p effs rs
def agreeP (reads : List (Nat × List Nat)) (effs : List (Nat × Mem × Mem)) : List (Nat × Nat) → Prop
  | [] => True
  | p :: ps => agree1 p effs reads ∧ agreeP reads effs ps
theorem agree3_all {a b : Mem} : ∀ {l : List Nat}, agree3 a b l → ∀ r ∈ l, look a r = look b r
  | [], _, r, h => by simp at h
  | x :: l, h, r, hr => by
    rcases List.mem_cons.1 hr with rfl | hr
    · exact h.1
    · exact agree3_all h.2 r hr
theorem agree2_all {q : Nat} {rs : List Nat} : ∀ {l : List (Nat × Mem × Mem)}, agree2 q rs l → ∀ ef ∈ l, ef.1 = q → ∀ r ∈ rs, look ef.2.1 r = look ef.2.2 r
  | [], _, r, h => by simp at h
  | x :: l, h, ef, he => by
    rcases List.mem_cons.1 he with rfl | he
    · intro hq; have := h.1; rw [if_pos hq] at this; exact agree3_all this
    · exact agree2_all h.2 ef he
theorem agree1_all {p : Nat × Nat} {effs : List (Nat × Mem × Mem)} : ∀ {l : List (Nat × List Nat)}, agree1 p effs l → ∀ rd ∈ l, rd.1 = p.1 → ∀ ef ∈ effs, ef.1 = p.2 → ∀ r ∈ rd.2, look ef.2.1 r = look ef.2.2 r
  | [], _, r, h => by simp at h
  | x :: l, h, rd, he => by
    rcases List.mem_cons.1 he with rfl | he
    · intro hq; have := h.1; rw [if_pos hq] at this; exact agree2_all this
    · exact agree1_all h.2 rd he
theorem agreeP_all {reads : List (Nat × List Nat)} {effs : List (Nat × Mem × Mem)} : ∀ {l : List (Nat × Nat)}, agreeP reads effs l → ∀ p ∈ l, ∀ rd ∈ reads, rd.1 = p.1 → ∀ ef ∈ effs, ef.1 = p.2 → ∀ r ∈ rd.2, look ef.2.1 r = look ef.2.2 r
  | [], _, r, h => by simp at h
  | x :: l, h, p, he => by
    rcases List.mem_cons.1 he with rfl | he
    · exact agree1_all h.1
    · exact agreeP_all h.2 p he
theorem drawEnd_go {pairs : List (Nat × Nat)} {ov vars : List V} {m : Mem} {reads : List (Nat × List Nat)} {effs : List (Nat × Mem × Mem)} (h : agreeP reads effs pairs) : drawEnd pairs ⟨ov, vars, m, none, reads, effs⟩ = some (.nrm vars m) := drawEnd_ok (s := ⟨ov, vars, m, none, reads, effs⟩) (fun p hp => agreeP_all h p hp) rfl
@[simp] theorem agree3_nil {a b : Mem} : agree3 a b [] ↔ True := ⟨fun _ => trivial, fun _ => trivial⟩
@[simp] theorem agree3_cons {a b : Mem} {r : Nat} {rs : List Nat} : agree3 a b (r :: rs) ↔ look a r = look b r ∧ agree3 a b rs := ⟨fun h => h, fun h => h⟩
@[simp] theorem agree2_nil {q : Nat} {rs : List Nat} : agree2 q rs [] ↔ True := ⟨fun _ => trivial, fun _ => trivial⟩
@[simp] theorem agree2_cons {q : Nat} {rs : List Nat} {ef : Nat × Mem × Mem} {es : List (Nat × Mem × Mem)} : agree2 q rs (ef :: es) ↔ (if ef.1 = q then agree3 ef.2.1 ef.2.2 rs else True) ∧ agree2 q rs es := ⟨fun h => h, fun h => h⟩
@[simp] theorem agree1_nil {p : Nat × Nat} {effs : List (Nat × Mem × Mem)} : agree1 p effs [] ↔ True := ⟨fun _ => trivial, fun _ => trivial⟩
@[simp] theorem agree1_cons {p : Nat × Nat} {effs : List (Nat × Mem × Mem)} {rd : Nat × List Nat} {rs : List (Nat × List Nat)} : agree1 p effs (rd :: rs) ↔ (if rd.1 = p.1 then agree2 p.2 rd.2 effs else True) ∧ agree1 p effs rs := ⟨fun h => h, fun h => h⟩
@[simp] theorem agreeP_nil {reads : List (Nat × List Nat)} {effs : List (Nat × Mem × Mem)} : agreeP reads effs [] ↔ True := ⟨fun _ => trivial, fun _ => trivial⟩
@[simp] theorem agreeP_cons {reads : List (Nat × List Nat)} {effs : List (Nat × Mem × Mem)} {p : Nat × Nat} {ps : List (Nat × Nat)} : agreeP reads effs (p :: ps) ↔ agree1 p effs reads ∧ agreeP reads effs ps := ⟨fun h => h, fun h => h⟩
attribute [simp] drawEnd_go
attribute [simp] runOps_nil runOps_plain runOps_go runOps_pass afterOp_val afterOp_pan bind_go runDraw_nil runDraw_cons afterDraw_some
attribute [simp] drawStep

def Rs.ends : Rs → Bool
  | .nrm _ _ => false
  | _ => true

section
variable {cf : CF} {b L : Nat} {kill : List Nat} {c : VC}

theorem loop_end {vars m v' m' r} (h0 : fresh b L kill vars m = some (v', m')) (hr : ex cf b c v' m' = some r) (he : r.ends = true) : loopL cf b L kill c vars m = some r := by
  rw [loop_eq, h0, Option.bind_some, hr]
  cases r <;> first | rfl | simp [Rs.ends] at he

theorem loop_next {vars m v' m' v2 m2} (h0 : fresh b L kill vars m = some (v', m')) (hr : ex cf b c v' m' = some (.nrm v2 m2)) : loopL cf b L kill c vars m = loopL cf b L kill c v2 m2 := by
  rw [loop_eq, h0, Option.bind_some, hr]; rfl

/-- A loop of n rounds. -/
theorem loop_count (n : Nat) (Hd : Nat → List V) (Mm : Nat → Mem) {vars m r} (h0 : fresh b L kill vars m = some (Hd 0, Mm 0))
    (hs : ∀ i, i < n → ∃ v' m', ex cf b c (Hd i) (Mm i) = some (.nrm v' m') ∧ fresh b L kill v' m' = some (Hd (i + 1), Mm (i + 1)))
    (hr : ex cf b c (Hd n) (Mm n) = some r) (he : r.ends = true) : loopL cf b L kill c vars m = some r := by
  have key : ∀ k, k ≤ n → ∀ vars m, fresh b L kill vars m = some (Hd (n - k), Mm (n - k)) → loopL cf b L kill c vars m = some r := by
    intro k
    induction k with
    | zero => intro _ vars m h; exact loop_end h hr he
    | succ k ih =>
      intro hk vars m h
      obtain ⟨v', m', h1, h2⟩ := hs (n - (k + 1)) (by omega)
      rw [loop_next h h1]
      refine ih (by omega) _ _ ?_
      rw [show n - k = n - (k + 1) + 1 by omega]; exact h2
  exact key n (Nat.le_refl n) vars m (by rw [Nat.sub_self]; exact h0)

/-- A loop with a state: each round goes on, or ends. -/
theorem loop_rel {σ : Type} (Hd : σ → List V) (Mm : σ → Mem) (I : σ → Prop) (Q : σ → Rs → Prop) (μ : σ → Nat)
    (hs : ∀ s, I s → ∃ r, ex cf b c (Hd s) (Mm s) = some r ∧ ((r.ends = true ∧ Q s r) ∨ ∃ v' m' s', r = .nrm v' m' ∧ fresh b L kill v' m' = some (Hd s', Mm s') ∧ I s' ∧ μ s' < μ s ∧ ∀ r, Q s' r → Q s r)) :
    ∀ (s : σ) (vars : List V) (m : Mem), I s → fresh b L kill vars m = some (Hd s, Mm s) → ∃ r, loopL cf b L kill c vars m = some r ∧ Q s r := by
  have key : ∀ k s vars m, μ s < k → I s → fresh b L kill vars m = some (Hd s, Mm s) → ∃ r, loopL cf b L kill c vars m = some r ∧ Q s r := by
    intro k
    induction k with
    | zero => intro s vars m h; omega
    | succ k ih =>
      intro s vars m hk hI h
      obtain ⟨r, h1, h2⟩ := hs s hI
      rcases h2 with ⟨he, hq⟩ | ⟨v', m', s', rfl, hf, hI', hlt, hq⟩
      · exact ⟨r, loop_end h h1 he, hq⟩
      · obtain ⟨r, h3, h4⟩ := ih s' v' m' (by omega) hI' hf
        exact ⟨r, by rw [loop_next h h1]; exact h3, hq r h4⟩
  intro s vars m hI h
  exact key (μ s + 1) s vars m (by omega) hI h

/-- A loop over a list, with a state: out is what it comes to, with the rest of the list from place i on. -/
theorem loop_list {α σ : Type} (l : List α) (Hd : Nat → σ → List V) (Mm : Nat → σ → Mem) (I : Nat → σ → Prop) (out : List α → Nat → σ → Rs)
    (hend : ∀ s, I l.length s → ex cf b c (Hd l.length s) (Mm l.length s) = some (out [] l.length s) ∧ (out [] l.length s).ends = true)
    (hs : ∀ i a rest s, l[i]? = some a → l.drop i = a :: rest → I i s →
      (ex cf b c (Hd i s) (Mm i s) = some (out (a :: rest) i s) ∧ (out (a :: rest) i s).ends = true) ∨
      ∃ v' m' s', ex cf b c (Hd i s) (Mm i s) = some (.nrm v' m') ∧ fresh b L kill v' m' = some (Hd (i + 1) s', Mm (i + 1) s') ∧ I (i + 1) s' ∧ out (a :: rest) i s = out rest (i + 1) s') :
    ∀ (rest : List α) (i : Nat) (s : σ) (vars : List V) (m : Mem), l.drop i = rest → i ≤ l.length → I i s → fresh b L kill vars m = some (Hd i s, Mm i s) → loopL cf b L kill c vars m = some (out rest i s)
  | [], i, s, vars, m, hd, hi, hI, h => by
    have e : i = l.length := by
      have : (l.drop i).length = 0 := by rw [hd]; rfl
      rw [List.length_drop] at this; omega
    subst e
    obtain ⟨h1, h2⟩ := hend s hI
    exact loop_end h h1 h2
  | a :: rest, i, s, vars, m, hd, hi, hI, h => by
    have ha : l[i]? = some a := by
      have : (l.drop i)[0]? = some a := by rw [hd]; rfl
      simpa using this
    have hlt : i < l.length := (List.getElem?_eq_some_iff.1 ha).1
    rcases hs i a rest s ha hd hI with ⟨h1, h2⟩ | ⟨v', m', s', h1, h2, h3, h4⟩
    · exact loop_end h h1 h2
    · rw [loop_next h h1, h4]
      exact loop_list l Hd Mm I out hend hs rest (i + 1) s' v' m' (by rw [← List.drop_drop, hd]; rfl) (by omega) h3 h2
end

theorem dropTo_one {o : O} {m : Mem} {L : Nat} (h : m.length = L) : dropTo L (o :: m) = m := by
  simp only [dropTo]
  rw [if_neg (by omega), dropTo_len (Nat.le_of_eq h)]
theorem dropTo_cons {o : O} {m : Mem} {L : Nat} (h : L ≤ m.length) : dropTo L (o :: m) = dropTo L m := by
  simp only [dropTo]; rw [if_neg (by omega)]
theorem dropTo_self {m : Mem} : dropTo m.length m = m := dropTo_len (Nat.le_refl _)
theorem upd_new {o o' : O} {m : Mem} {r : Nat} (h : r = m.length) : upd (o :: m) r o' = o' :: m := by rw [h]; exact upd_cons_new
theorem look_new {o : O} {m : Mem} {r : Nat} (h : r = m.length) : look (o :: m) r = some o := by rw [h]; exact look_cons_new

attribute [simp] look_cons_new upd_cons_new look_new upd_new look_cons_old upd_cons_old dropTo_cons dropTo_len dropTo_self

/-! ### objects under newer ones -/
theorem look_n2 {a b o : O} {m : Mem} : look (a :: b :: o :: m) m.length = some o := by
  rw [look_cons_old (by first | assumption | (simp only [List.length_cons]; omega)), look_cons_old (by first | assumption | (simp only [List.length_cons]; omega)), look_cons_new]
theorem upd_n2 {a b o o' : O} {m : Mem} : upd (a :: b :: o :: m) m.length o' = a :: b :: o' :: m := by
  rw [upd_cons_old (by first | assumption | (simp only [List.length_cons]; omega)), upd_cons_old (by first | assumption | (simp only [List.length_cons]; omega)), upd_cons_new]
theorem look_o2 {a b : O} {m : Mem} {r : Nat} (h : r < m.length) : look (a :: b :: m) r = look m r := by
  rw [look_cons_old (by first | assumption | (simp only [List.length_cons]; omega)), look_cons_old (by first | assumption | (simp only [List.length_cons]; omega))]
theorem upd_o2 {a b o' : O} {m : Mem} {r : Nat} (h : r < m.length) : upd (a :: b :: m) r o' = a :: b :: upd m r o' := by
  rw [upd_cons_old (by first | assumption | (simp only [List.length_cons]; omega)), upd_cons_old (by first | assumption | (simp only [List.length_cons]; omega))]
theorem look_n3 {a b c o : O} {m : Mem} : look (a :: b :: c :: o :: m) m.length = some o := by
  rw [look_cons_old (by first | assumption | (simp only [List.length_cons]; omega)), look_cons_old (by first | assumption | (simp only [List.length_cons]; omega)), look_cons_old (by first | assumption | (simp only [List.length_cons]; omega)), look_cons_new]
theorem upd_n3 {a b c o o' : O} {m : Mem} : upd (a :: b :: c :: o :: m) m.length o' = a :: b :: c :: o' :: m := by
  rw [upd_cons_old (by first | assumption | (simp only [List.length_cons]; omega)), upd_cons_old (by first | assumption | (simp only [List.length_cons]; omega)), upd_cons_old (by first | assumption | (simp only [List.length_cons]; omega)), upd_cons_new]
theorem look_o3 {a b c : O} {m : Mem} {r : Nat} (h : r < m.length) : look (a :: b :: c :: m) r = look m r := by
  rw [look_cons_old (by first | assumption | (simp only [List.length_cons]; omega)), look_cons_old (by first | assumption | (simp only [List.length_cons]; omega)), look_cons_old (by first | assumption | (simp only [List.length_cons]; omega))]
theorem upd_o3 {a b c o' : O} {m : Mem} {r : Nat} (h : r < m.length) : upd (a :: b :: c :: m) r o' = a :: b :: c :: upd m r o' := by
  rw [upd_cons_old (by first | assumption | (simp only [List.length_cons]; omega)), upd_cons_old (by first | assumption | (simp only [List.length_cons]; omega)), upd_cons_old (by first | assumption | (simp only [List.length_cons]; omega))]
theorem look_n4 {a b c d o : O} {m : Mem} : look (a :: b :: c :: d :: o :: m) m.length = some o := by
  rw [look_cons_old (by first | assumption | (simp only [List.length_cons]; omega)), look_cons_old (by first | assumption | (simp only [List.length_cons]; omega)), look_cons_old (by first | assumption | (simp only [List.length_cons]; omega)), look_cons_old (by first | assumption | (simp only [List.length_cons]; omega)), look_cons_new]
theorem upd_n4 {a b c d o o' : O} {m : Mem} : upd (a :: b :: c :: d :: o :: m) m.length o' = a :: b :: c :: d :: o' :: m := by
  rw [upd_cons_old (by first | assumption | (simp only [List.length_cons]; omega)), upd_cons_old (by first | assumption | (simp only [List.length_cons]; omega)), upd_cons_old (by first | assumption | (simp only [List.length_cons]; omega)), upd_cons_old (by first | assumption | (simp only [List.length_cons]; omega)), upd_cons_new]
theorem look_o4 {a b c d : O} {m : Mem} {r : Nat} (h : r < m.length) : look (a :: b :: c :: d :: m) r = look m r := by
  rw [look_cons_old (by first | assumption | (simp only [List.length_cons]; omega)), look_cons_old (by first | assumption | (simp only [List.length_cons]; omega)), look_cons_old (by first | assumption | (simp only [List.length_cons]; omega)), look_cons_old (by first | assumption | (simp only [List.length_cons]; omega))]
theorem upd_o4 {a b c d o' : O} {m : Mem} {r : Nat} (h : r < m.length) : upd (a :: b :: c :: d :: m) r o' = a :: b :: c :: d :: upd m r o' := by
  rw [upd_cons_old (by first | assumption | (simp only [List.length_cons]; omega)), upd_cons_old (by first | assumption | (simp only [List.length_cons]; omega)), upd_cons_old (by first | assumption | (simp only [List.length_cons]; omega)), upd_cons_old (by first | assumption | (simp only [List.length_cons]; omega))]
theorem look_n5 {a b c d e o : O} {m : Mem} : look (a :: b :: c :: d :: e :: o :: m) m.length = some o := by
  rw [look_cons_old (by first | assumption | (simp only [List.length_cons]; omega)), look_cons_old (by first | assumption | (simp only [List.length_cons]; omega)), look_cons_old (by first | assumption | (simp only [List.length_cons]; omega)), look_cons_old (by first | assumption | (simp only [List.length_cons]; omega)), look_cons_old (by first | assumption | (simp only [List.length_cons]; omega)), look_cons_new]
theorem upd_n5 {a b c d e o o' : O} {m : Mem} : upd (a :: b :: c :: d :: e :: o :: m) m.length o' = a :: b :: c :: d :: e :: o' :: m := by
  rw [upd_cons_old (by first | assumption | (simp only [List.length_cons]; omega)), upd_cons_old (by first | assumption | (simp only [List.length_cons]; omega)), upd_cons_old (by first | assumption | (simp only [List.length_cons]; omega)), upd_cons_old (by first | assumption | (simp only [List.length_cons]; omega)), upd_cons_old (by first | assumption | (simp only [List.length_cons]; omega)), upd_cons_new]
theorem look_o5 {a b c d e : O} {m : Mem} {r : Nat} (h : r < m.length) : look (a :: b :: c :: d :: e :: m) r = look m r := by
  rw [look_cons_old (by first | assumption | (simp only [List.length_cons]; omega)), look_cons_old (by first | assumption | (simp only [List.length_cons]; omega)), look_cons_old (by first | assumption | (simp only [List.length_cons]; omega)), look_cons_old (by first | assumption | (simp only [List.length_cons]; omega)), look_cons_old (by first | assumption | (simp only [List.length_cons]; omega))]
theorem upd_o5 {a b c d e o' : O} {m : Mem} {r : Nat} (h : r < m.length) : upd (a :: b :: c :: d :: e :: m) r o' = a :: b :: c :: d :: e :: upd m r o' := by
  rw [upd_cons_old (by first | assumption | (simp only [List.length_cons]; omega)), upd_cons_old (by first | assumption | (simp only [List.length_cons]; omega)), upd_cons_old (by first | assumption | (simp only [List.length_cons]; omega)), upd_cons_old (by first | assumption | (simp only [List.length_cons]; omega)), upd_cons_old (by first | assumption | (simp only [List.length_cons]; omega))]
theorem look_n6 {a b c d e f o : O} {m : Mem} : look (a :: b :: c :: d :: e :: f :: o :: m) m.length = some o := by
  rw [look_cons_old (by first | assumption | (simp only [List.length_cons]; omega)), look_cons_old (by first | assumption | (simp only [List.length_cons]; omega)), look_cons_old (by first | assumption | (simp only [List.length_cons]; omega)), look_cons_old (by first | assumption | (simp only [List.length_cons]; omega)), look_cons_old (by first | assumption | (simp only [List.length_cons]; omega)), look_cons_old (by first | assumption | (simp only [List.length_cons]; omega)), look_cons_new]
theorem upd_n6 {a b c d e f o o' : O} {m : Mem} : upd (a :: b :: c :: d :: e :: f :: o :: m) m.length o' = a :: b :: c :: d :: e :: f :: o' :: m := by
  rw [upd_cons_old (by first | assumption | (simp only [List.length_cons]; omega)), upd_cons_old (by first | assumption | (simp only [List.length_cons]; omega)), upd_cons_old (by first | assumption | (simp only [List.length_cons]; omega)), upd_cons_old (by first | assumption | (simp only [List.length_cons]; omega)), upd_cons_old (by first | assumption | (simp only [List.length_cons]; omega)), upd_cons_old (by first | assumption | (simp only [List.length_cons]; omega)), upd_cons_new]
theorem look_o6 {a b c d e f : O} {m : Mem} {r : Nat} (h : r < m.length) : look (a :: b :: c :: d :: e :: f :: m) r = look m r := by
  rw [look_cons_old (by first | assumption | (simp only [List.length_cons]; omega)), look_cons_old (by first | assumption | (simp only [List.length_cons]; omega)), look_cons_old (by first | assumption | (simp only [List.length_cons]; omega)), look_cons_old (by first | assumption | (simp only [List.length_cons]; omega)), look_cons_old (by first | assumption | (simp only [List.length_cons]; omega)), look_cons_old (by first | assumption | (simp only [List.length_cons]; omega))]
theorem upd_o6 {a b c d e f o' : O} {m : Mem} {r : Nat} (h : r < m.length) : upd (a :: b :: c :: d :: e :: f :: m) r o' = a :: b :: c :: d :: e :: f :: upd m r o' := by
  rw [upd_cons_old (by first | assumption | (simp only [List.length_cons]; omega)), upd_cons_old (by first | assumption | (simp only [List.length_cons]; omega)), upd_cons_old (by first | assumption | (simp only [List.length_cons]; omega)), upd_cons_old (by first | assumption | (simp only [List.length_cons]; omega)), upd_cons_old (by first | assumption | (simp only [List.length_cons]; omega)), upd_cons_old (by first | assumption | (simp only [List.length_cons]; omega))]
theorem look_m1_1 {a x0 o : O} {m : Mem} : look (a :: o :: x0 :: m) (m.length + 1) = some o := by
  rw [look_cons_old (by first | assumption | (simp only [List.length_cons]; omega)), look_new (by simp)]
theorem upd_m1_1 {a x0 o o' : O} {m : Mem} : upd (a :: o :: x0 :: m) (m.length + 1) o' = a :: o' :: x0 :: m := by
  rw [upd_cons_old (by first | assumption | (simp only [List.length_cons]; omega)), upd_new (by simp)]
theorem look_m1_2 {a b x0 o : O} {m : Mem} : look (a :: b :: o :: x0 :: m) (m.length + 1) = some o := by
  rw [look_cons_old (by first | assumption | (simp only [List.length_cons]; omega)), look_cons_old (by first | assumption | (simp only [List.length_cons]; omega)), look_new (by simp)]
theorem upd_m1_2 {a b x0 o o' : O} {m : Mem} : upd (a :: b :: o :: x0 :: m) (m.length + 1) o' = a :: b :: o' :: x0 :: m := by
  rw [upd_cons_old (by first | assumption | (simp only [List.length_cons]; omega)), upd_cons_old (by first | assumption | (simp only [List.length_cons]; omega)), upd_new (by simp)]
theorem look_m1_3 {a b c x0 o : O} {m : Mem} : look (a :: b :: c :: o :: x0 :: m) (m.length + 1) = some o := by
  rw [look_cons_old (by first | assumption | (simp only [List.length_cons]; omega)), look_cons_old (by first | assumption | (simp only [List.length_cons]; omega)), look_cons_old (by first | assumption | (simp only [List.length_cons]; omega)), look_new (by simp)]
theorem upd_m1_3 {a b c x0 o o' : O} {m : Mem} : upd (a :: b :: c :: o :: x0 :: m) (m.length + 1) o' = a :: b :: c :: o' :: x0 :: m := by
  rw [upd_cons_old (by first | assumption | (simp only [List.length_cons]; omega)), upd_cons_old (by first | assumption | (simp only [List.length_cons]; omega)), upd_cons_old (by first | assumption | (simp only [List.length_cons]; omega)), upd_new (by simp)]
theorem look_m1_4 {a b c d x0 o : O} {m : Mem} : look (a :: b :: c :: d :: o :: x0 :: m) (m.length + 1) = some o := by
  rw [look_cons_old (by first | assumption | (simp only [List.length_cons]; omega)), look_cons_old (by first | assumption | (simp only [List.length_cons]; omega)), look_cons_old (by first | assumption | (simp only [List.length_cons]; omega)), look_cons_old (by first | assumption | (simp only [List.length_cons]; omega)), look_new (by simp)]
theorem upd_m1_4 {a b c d x0 o o' : O} {m : Mem} : upd (a :: b :: c :: d :: o :: x0 :: m) (m.length + 1) o' = a :: b :: c :: d :: o' :: x0 :: m := by
  rw [upd_cons_old (by first | assumption | (simp only [List.length_cons]; omega)), upd_cons_old (by first | assumption | (simp only [List.length_cons]; omega)), upd_cons_old (by first | assumption | (simp only [List.length_cons]; omega)), upd_cons_old (by first | assumption | (simp only [List.length_cons]; omega)), upd_new (by simp)]
theorem look_m2_1 {a x0 x1 o : O} {m : Mem} : look (a :: o :: x0 :: x1 :: m) (m.length + 1 + 1) = some o := by
  rw [look_cons_old (by first | assumption | (simp only [List.length_cons]; omega)), look_new (by simp)]
theorem upd_m2_1 {a x0 x1 o o' : O} {m : Mem} : upd (a :: o :: x0 :: x1 :: m) (m.length + 1 + 1) o' = a :: o' :: x0 :: x1 :: m := by
  rw [upd_cons_old (by first | assumption | (simp only [List.length_cons]; omega)), upd_new (by simp)]
theorem look_m2_2 {a b x0 x1 o : O} {m : Mem} : look (a :: b :: o :: x0 :: x1 :: m) (m.length + 1 + 1) = some o := by
  rw [look_cons_old (by first | assumption | (simp only [List.length_cons]; omega)), look_cons_old (by first | assumption | (simp only [List.length_cons]; omega)), look_new (by simp)]
theorem upd_m2_2 {a b x0 x1 o o' : O} {m : Mem} : upd (a :: b :: o :: x0 :: x1 :: m) (m.length + 1 + 1) o' = a :: b :: o' :: x0 :: x1 :: m := by
  rw [upd_cons_old (by first | assumption | (simp only [List.length_cons]; omega)), upd_cons_old (by first | assumption | (simp only [List.length_cons]; omega)), upd_new (by simp)]
theorem look_m2_3 {a b c x0 x1 o : O} {m : Mem} : look (a :: b :: c :: o :: x0 :: x1 :: m) (m.length + 1 + 1) = some o := by
  rw [look_cons_old (by first | assumption | (simp only [List.length_cons]; omega)), look_cons_old (by first | assumption | (simp only [List.length_cons]; omega)), look_cons_old (by first | assumption | (simp only [List.length_cons]; omega)), look_new (by simp)]
theorem upd_m2_3 {a b c x0 x1 o o' : O} {m : Mem} : upd (a :: b :: c :: o :: x0 :: x1 :: m) (m.length + 1 + 1) o' = a :: b :: c :: o' :: x0 :: x1 :: m := by
  rw [upd_cons_old (by first | assumption | (simp only [List.length_cons]; omega)), upd_cons_old (by first | assumption | (simp only [List.length_cons]; omega)), upd_cons_old (by first | assumption | (simp only [List.length_cons]; omega)), upd_new (by simp)]
theorem look_m2_4 {a b c d x0 x1 o : O} {m : Mem} : look (a :: b :: c :: d :: o :: x0 :: x1 :: m) (m.length + 1 + 1) = some o := by
  rw [look_cons_old (by first | assumption | (simp only [List.length_cons]; omega)), look_cons_old (by first | assumption | (simp only [List.length_cons]; omega)), look_cons_old (by first | assumption | (simp only [List.length_cons]; omega)), look_cons_old (by first | assumption | (simp only [List.length_cons]; omega)), look_new (by simp)]
theorem upd_m2_4 {a b c d x0 x1 o o' : O} {m : Mem} : upd (a :: b :: c :: d :: o :: x0 :: x1 :: m) (m.length + 1 + 1) o' = a :: b :: c :: d :: o' :: x0 :: x1 :: m := by
  rw [upd_cons_old (by first | assumption | (simp only [List.length_cons]; omega)), upd_cons_old (by first | assumption | (simp only [List.length_cons]; omega)), upd_cons_old (by first | assumption | (simp only [List.length_cons]; omega)), upd_cons_old (by first | assumption | (simp only [List.length_cons]; omega)), upd_new (by simp)]
theorem look_m3_1 {a x0 x1 x2 o : O} {m : Mem} : look (a :: o :: x0 :: x1 :: x2 :: m) (m.length + 1 + 1 + 1) = some o := by
  rw [look_cons_old (by first | assumption | (simp only [List.length_cons]; omega)), look_new (by simp)]
theorem upd_m3_1 {a x0 x1 x2 o o' : O} {m : Mem} : upd (a :: o :: x0 :: x1 :: x2 :: m) (m.length + 1 + 1 + 1) o' = a :: o' :: x0 :: x1 :: x2 :: m := by
  rw [upd_cons_old (by first | assumption | (simp only [List.length_cons]; omega)), upd_new (by simp)]
theorem look_m3_2 {a b x0 x1 x2 o : O} {m : Mem} : look (a :: b :: o :: x0 :: x1 :: x2 :: m) (m.length + 1 + 1 + 1) = some o := by
  rw [look_cons_old (by first | assumption | (simp only [List.length_cons]; omega)), look_cons_old (by first | assumption | (simp only [List.length_cons]; omega)), look_new (by simp)]
theorem upd_m3_2 {a b x0 x1 x2 o o' : O} {m : Mem} : upd (a :: b :: o :: x0 :: x1 :: x2 :: m) (m.length + 1 + 1 + 1) o' = a :: b :: o' :: x0 :: x1 :: x2 :: m := by
  rw [upd_cons_old (by first | assumption | (simp only [List.length_cons]; omega)), upd_cons_old (by first | assumption | (simp only [List.length_cons]; omega)), upd_new (by simp)]
theorem look_m3_3 {a b c x0 x1 x2 o : O} {m : Mem} : look (a :: b :: c :: o :: x0 :: x1 :: x2 :: m) (m.length + 1 + 1 + 1) = some o := by
  rw [look_cons_old (by first | assumption | (simp only [List.length_cons]; omega)), look_cons_old (by first | assumption | (simp only [List.length_cons]; omega)), look_cons_old (by first | assumption | (simp only [List.length_cons]; omega)), look_new (by simp)]
theorem upd_m3_3 {a b c x0 x1 x2 o o' : O} {m : Mem} : upd (a :: b :: c :: o :: x0 :: x1 :: x2 :: m) (m.length + 1 + 1 + 1) o' = a :: b :: c :: o' :: x0 :: x1 :: x2 :: m := by
  rw [upd_cons_old (by first | assumption | (simp only [List.length_cons]; omega)), upd_cons_old (by first | assumption | (simp only [List.length_cons]; omega)), upd_cons_old (by first | assumption | (simp only [List.length_cons]; omega)), upd_new (by simp)]
theorem look_m3_4 {a b c d x0 x1 x2 o : O} {m : Mem} : look (a :: b :: c :: d :: o :: x0 :: x1 :: x2 :: m) (m.length + 1 + 1 + 1) = some o := by
  rw [look_cons_old (by first | assumption | (simp only [List.length_cons]; omega)), look_cons_old (by first | assumption | (simp only [List.length_cons]; omega)), look_cons_old (by first | assumption | (simp only [List.length_cons]; omega)), look_cons_old (by first | assumption | (simp only [List.length_cons]; omega)), look_new (by simp)]
theorem upd_m3_4 {a b c d x0 x1 x2 o o' : O} {m : Mem} : upd (a :: b :: c :: d :: o :: x0 :: x1 :: x2 :: m) (m.length + 1 + 1 + 1) o' = a :: b :: c :: d :: o' :: x0 :: x1 :: x2 :: m := by
  rw [upd_cons_old (by first | assumption | (simp only [List.length_cons]; omega)), upd_cons_old (by first | assumption | (simp only [List.length_cons]; omega)), upd_cons_old (by first | assumption | (simp only [List.length_cons]; omega)), upd_cons_old (by first | assumption | (simp only [List.length_cons]; omega)), upd_new (by simp)]
theorem look_m4_1 {a x0 x1 x2 x3 o : O} {m : Mem} : look (a :: o :: x0 :: x1 :: x2 :: x3 :: m) (m.length + 1 + 1 + 1 + 1) = some o := by
  rw [look_cons_old (by first | assumption | (simp only [List.length_cons]; omega)), look_new (by simp)]
theorem upd_m4_1 {a x0 x1 x2 x3 o o' : O} {m : Mem} : upd (a :: o :: x0 :: x1 :: x2 :: x3 :: m) (m.length + 1 + 1 + 1 + 1) o' = a :: o' :: x0 :: x1 :: x2 :: x3 :: m := by
  rw [upd_cons_old (by first | assumption | (simp only [List.length_cons]; omega)), upd_new (by simp)]
theorem look_m4_2 {a b x0 x1 x2 x3 o : O} {m : Mem} : look (a :: b :: o :: x0 :: x1 :: x2 :: x3 :: m) (m.length + 1 + 1 + 1 + 1) = some o := by
  rw [look_cons_old (by first | assumption | (simp only [List.length_cons]; omega)), look_cons_old (by first | assumption | (simp only [List.length_cons]; omega)), look_new (by simp)]
theorem upd_m4_2 {a b x0 x1 x2 x3 o o' : O} {m : Mem} : upd (a :: b :: o :: x0 :: x1 :: x2 :: x3 :: m) (m.length + 1 + 1 + 1 + 1) o' = a :: b :: o' :: x0 :: x1 :: x2 :: x3 :: m := by
  rw [upd_cons_old (by first | assumption | (simp only [List.length_cons]; omega)), upd_cons_old (by first | assumption | (simp only [List.length_cons]; omega)), upd_new (by simp)]
theorem look_m4_3 {a b c x0 x1 x2 x3 o : O} {m : Mem} : look (a :: b :: c :: o :: x0 :: x1 :: x2 :: x3 :: m) (m.length + 1 + 1 + 1 + 1) = some o := by
  rw [look_cons_old (by first | assumption | (simp only [List.length_cons]; omega)), look_cons_old (by first | assumption | (simp only [List.length_cons]; omega)), look_cons_old (by first | assumption | (simp only [List.length_cons]; omega)), look_new (by simp)]
theorem upd_m4_3 {a b c x0 x1 x2 x3 o o' : O} {m : Mem} : upd (a :: b :: c :: o :: x0 :: x1 :: x2 :: x3 :: m) (m.length + 1 + 1 + 1 + 1) o' = a :: b :: c :: o' :: x0 :: x1 :: x2 :: x3 :: m := by
  rw [upd_cons_old (by first | assumption | (simp only [List.length_cons]; omega)), upd_cons_old (by first | assumption | (simp only [List.length_cons]; omega)), upd_cons_old (by first | assumption | (simp only [List.length_cons]; omega)), upd_new (by simp)]
theorem look_m4_4 {a b c d x0 x1 x2 x3 o : O} {m : Mem} : look (a :: b :: c :: d :: o :: x0 :: x1 :: x2 :: x3 :: m) (m.length + 1 + 1 + 1 + 1) = some o := by
  rw [look_cons_old (by first | assumption | (simp only [List.length_cons]; omega)), look_cons_old (by first | assumption | (simp only [List.length_cons]; omega)), look_cons_old (by first | assumption | (simp only [List.length_cons]; omega)), look_cons_old (by first | assumption | (simp only [List.length_cons]; omega)), look_new (by simp)]
theorem upd_m4_4 {a b c d x0 x1 x2 x3 o o' : O} {m : Mem} : upd (a :: b :: c :: d :: o :: x0 :: x1 :: x2 :: x3 :: m) (m.length + 1 + 1 + 1 + 1) o' = a :: b :: c :: d :: o' :: x0 :: x1 :: x2 :: x3 :: m := by
  rw [upd_cons_old (by first | assumption | (simp only [List.length_cons]; omega)), upd_cons_old (by first | assumption | (simp only [List.length_cons]; omega)), upd_cons_old (by first | assumption | (simp only [List.length_cons]; omega)), upd_cons_old (by first | assumption | (simp only [List.length_cons]; omega)), upd_new (by simp)]
attribute [simp] look_n2 upd_n2 look_o2 upd_o2 look_n3 upd_n3 look_o3 upd_o3 look_n4 upd_n4 look_o4 upd_o4 look_n5 upd_n5 look_o5 upd_o5 look_n6 upd_n6 look_o6 upd_o6 look_m1_1 upd_m1_1 look_m1_2 upd_m1_2 look_m1_3 upd_m1_3 look_m1_4 upd_m1_4 look_m2_1 upd_m2_1 look_m2_2 upd_m2_2 look_m2_3 upd_m2_3 look_m2_4 upd_m2_4 look_m3_1 upd_m3_1 look_m3_2 upd_m3_2 look_m3_3 upd_m3_3 look_m3_4 upd_m3_4 look_m4_1 upd_m4_1 look_m4_2 upd_m4_2 look_m4_3 upd_m4_3 look_m4_4 upd_m4_4

/-! ### lengths -/
theorem le_0_2 {n : Nat} : n ≤ n + 1 + 1 := by omega
theorem lt_0_2 {n : Nat} : n < n + 1 + 1 := by omega
theorem le_0_3 {n : Nat} : n ≤ n + 1 + 1 + 1 := by omega
theorem lt_0_3 {n : Nat} : n < n + 1 + 1 + 1 := by omega
theorem le_0_4 {n : Nat} : n ≤ n + 1 + 1 + 1 + 1 := by omega
theorem lt_0_4 {n : Nat} : n < n + 1 + 1 + 1 + 1 := by omega
theorem le_0_5 {n : Nat} : n ≤ n + 1 + 1 + 1 + 1 + 1 := by omega
theorem lt_0_5 {n : Nat} : n < n + 1 + 1 + 1 + 1 + 1 := by omega
theorem le_0_6 {n : Nat} : n ≤ n + 1 + 1 + 1 + 1 + 1 + 1 := by omega
theorem lt_0_6 {n : Nat} : n < n + 1 + 1 + 1 + 1 + 1 + 1 := by omega
theorem le_0_7 {n : Nat} : n ≤ n + 1 + 1 + 1 + 1 + 1 + 1 + 1 := by omega
theorem lt_0_7 {n : Nat} : n < n + 1 + 1 + 1 + 1 + 1 + 1 + 1 := by omega
theorem le_0_8 {n : Nat} : n ≤ n + 1 + 1 + 1 + 1 + 1 + 1 + 1 + 1 := by omega
theorem lt_0_8 {n : Nat} : n < n + 1 + 1 + 1 + 1 + 1 + 1 + 1 + 1 := by omega
theorem le_1_3 {n : Nat} : n + 1 ≤ n + 1 + 1 + 1 := by omega
theorem lt_1_3 {n : Nat} : n + 1 < n + 1 + 1 + 1 := by omega
theorem le_1_4 {n : Nat} : n + 1 ≤ n + 1 + 1 + 1 + 1 := by omega
theorem lt_1_4 {n : Nat} : n + 1 < n + 1 + 1 + 1 + 1 := by omega
theorem le_1_5 {n : Nat} : n + 1 ≤ n + 1 + 1 + 1 + 1 + 1 := by omega
theorem lt_1_5 {n : Nat} : n + 1 < n + 1 + 1 + 1 + 1 + 1 := by omega
theorem le_1_6 {n : Nat} : n + 1 ≤ n + 1 + 1 + 1 + 1 + 1 + 1 := by omega
theorem lt_1_6 {n : Nat} : n + 1 < n + 1 + 1 + 1 + 1 + 1 + 1 := by omega
theorem le_1_7 {n : Nat} : n + 1 ≤ n + 1 + 1 + 1 + 1 + 1 + 1 + 1 := by omega
theorem lt_1_7 {n : Nat} : n + 1 < n + 1 + 1 + 1 + 1 + 1 + 1 + 1 := by omega
theorem le_1_8 {n : Nat} : n + 1 ≤ n + 1 + 1 + 1 + 1 + 1 + 1 + 1 + 1 := by omega
theorem lt_1_8 {n : Nat} : n + 1 < n + 1 + 1 + 1 + 1 + 1 + 1 + 1 + 1 := by omega
theorem le_2_4 {n : Nat} : n + 1 + 1 ≤ n + 1 + 1 + 1 + 1 := by omega
theorem lt_2_4 {n : Nat} : n + 1 + 1 < n + 1 + 1 + 1 + 1 := by omega
theorem le_2_5 {n : Nat} : n + 1 + 1 ≤ n + 1 + 1 + 1 + 1 + 1 := by omega
theorem lt_2_5 {n : Nat} : n + 1 + 1 < n + 1 + 1 + 1 + 1 + 1 := by omega
theorem le_2_6 {n : Nat} : n + 1 + 1 ≤ n + 1 + 1 + 1 + 1 + 1 + 1 := by omega
theorem lt_2_6 {n : Nat} : n + 1 + 1 < n + 1 + 1 + 1 + 1 + 1 + 1 := by omega
theorem le_2_7 {n : Nat} : n + 1 + 1 ≤ n + 1 + 1 + 1 + 1 + 1 + 1 + 1 := by omega
theorem lt_2_7 {n : Nat} : n + 1 + 1 < n + 1 + 1 + 1 + 1 + 1 + 1 + 1 := by omega
theorem le_2_8 {n : Nat} : n + 1 + 1 ≤ n + 1 + 1 + 1 + 1 + 1 + 1 + 1 + 1 := by omega
theorem lt_2_8 {n : Nat} : n + 1 + 1 < n + 1 + 1 + 1 + 1 + 1 + 1 + 1 + 1 := by omega
theorem le_3_5 {n : Nat} : n + 1 + 1 + 1 ≤ n + 1 + 1 + 1 + 1 + 1 := by omega
theorem lt_3_5 {n : Nat} : n + 1 + 1 + 1 < n + 1 + 1 + 1 + 1 + 1 := by omega
theorem le_3_6 {n : Nat} : n + 1 + 1 + 1 ≤ n + 1 + 1 + 1 + 1 + 1 + 1 := by omega
theorem lt_3_6 {n : Nat} : n + 1 + 1 + 1 < n + 1 + 1 + 1 + 1 + 1 + 1 := by omega
theorem le_3_7 {n : Nat} : n + 1 + 1 + 1 ≤ n + 1 + 1 + 1 + 1 + 1 + 1 + 1 := by omega
theorem lt_3_7 {n : Nat} : n + 1 + 1 + 1 < n + 1 + 1 + 1 + 1 + 1 + 1 + 1 := by omega
theorem le_3_8 {n : Nat} : n + 1 + 1 + 1 ≤ n + 1 + 1 + 1 + 1 + 1 + 1 + 1 + 1 := by omega
theorem lt_3_8 {n : Nat} : n + 1 + 1 + 1 < n + 1 + 1 + 1 + 1 + 1 + 1 + 1 + 1 := by omega
theorem le_4_6 {n : Nat} : n + 1 + 1 + 1 + 1 ≤ n + 1 + 1 + 1 + 1 + 1 + 1 := by omega
theorem lt_4_6 {n : Nat} : n + 1 + 1 + 1 + 1 < n + 1 + 1 + 1 + 1 + 1 + 1 := by omega
theorem le_4_7 {n : Nat} : n + 1 + 1 + 1 + 1 ≤ n + 1 + 1 + 1 + 1 + 1 + 1 + 1 := by omega
theorem lt_4_7 {n : Nat} : n + 1 + 1 + 1 + 1 < n + 1 + 1 + 1 + 1 + 1 + 1 + 1 := by omega
theorem le_4_8 {n : Nat} : n + 1 + 1 + 1 + 1 ≤ n + 1 + 1 + 1 + 1 + 1 + 1 + 1 + 1 := by omega
theorem lt_4_8 {n : Nat} : n + 1 + 1 + 1 + 1 < n + 1 + 1 + 1 + 1 + 1 + 1 + 1 + 1 := by omega
theorem le_5_7 {n : Nat} : n + 1 + 1 + 1 + 1 + 1 ≤ n + 1 + 1 + 1 + 1 + 1 + 1 + 1 := by omega
theorem lt_5_7 {n : Nat} : n + 1 + 1 + 1 + 1 + 1 < n + 1 + 1 + 1 + 1 + 1 + 1 + 1 := by omega
theorem le_5_8 {n : Nat} : n + 1 + 1 + 1 + 1 + 1 ≤ n + 1 + 1 + 1 + 1 + 1 + 1 + 1 + 1 := by omega
theorem lt_5_8 {n : Nat} : n + 1 + 1 + 1 + 1 + 1 < n + 1 + 1 + 1 + 1 + 1 + 1 + 1 + 1 := by omega
attribute [simp] le_0_2 lt_0_2 le_0_3 lt_0_3 le_0_4 lt_0_4 le_0_5 lt_0_5 le_0_6 lt_0_6 le_0_7 lt_0_7 le_0_8 lt_0_8 le_1_3 lt_1_3 le_1_4 lt_1_4 le_1_5 lt_1_5 le_1_6 lt_1_6 le_1_7 lt_1_7 le_1_8 lt_1_8 le_2_4 lt_2_4 le_2_5 lt_2_5 le_2_6 lt_2_6 le_2_7 lt_2_7 le_2_8 lt_2_8 le_3_5 lt_3_5 le_3_6 lt_3_6 le_3_7 lt_3_7 le_3_8 lt_3_8 le_4_6 lt_4_6 le_4_7 lt_4_7 le_4_8 lt_4_8 le_5_7 lt_5_7 le_5_8 lt_5_8

/-- What was made in a round goes with it. -/
theorem fresh_news {b : Nat} {kill : List Nat} {vars : List V} {m : Mem} (hm : m.length = b) : ∀ (l : Mem), V.underL b (killed kill vars) = true → fresh b b kill vars (l ++ m) = some (killed kill vars, m) := by
  intro l hu
  have h1 : ∀ l : Mem, objsOK b b (l ++ m) = true := by
    intro l
    induction l with
    | nil => exact objsOK_self (Nat.le_of_eq hm)
    | cons o l ih =>
      simp only [List.cons_append, objsOK]
      split
      · rfl
      · simp [ih, hm]
  have h2 : ∀ l : Mem, dropTo b (l ++ m) = m := by
    intro l
    induction l with
    | nil => exact dropTo_len (Nat.le_of_eq hm)
    | cons o l ih => rw [List.cons_append, dropTo_cons (by simp; omega), ih]
  unfold fresh
  rw [hu, h1, h2]; rfl

/-- A round, and what the next one begins with. -/
noncomputable def rnd (cf : CF) (b L : Nat) (kill : List Nat) (c : VC) (vars : List V) (m : Mem) : Option (List V × Mem) := (ex cf b c vars m).bind fun
  | .nrm v m => fresh b L kill v m
  | _ => none
theorem rnd_some {cf : CF} {b L : Nat} {kill : List Nat} {c : VC} {vars : List V} {m : Mem} {p : List V × Mem} (h : rnd cf b L kill c vars m = some p) : ∃ v' m', ex cf b c vars m = some (.nrm v' m') ∧ fresh b L kill v' m' = some p := by
  unfold rnd at h
  obtain ⟨r, h1, h2⟩ := obind h
  cases r with
  | nrm v m => exact ⟨v, m, h1, h2⟩
  | exit => cases h2
  | ret => cases h2
  | pan => cases h2

theorem fresh_ok {b L : Nat} {kill : List Nat} {vars : List V} {m : Mem} (h1 : V.underL L (killed kill vars) = true) (h2 : objsOK b L m = true) : fresh b L kill vars m = some (killed kill vars, dropTo L m) := by
  unfold fresh; rw [h1, h2]; rfl
theorem objsOK_cons {b L : Nat} {o : O} {m : Mem} (h : b ≤ m.length) : objsOK b L (o :: m) = ((decide (L ≤ m.length) || o.under L) && objsOK b L m) := by
  simp only [objsOK]; rw [if_neg (by omega)]
theorem objsOK_upd {b L : Nat} {o : O} {r : Nat} : ∀ {m : Mem}, r < b → objsOK b L (upd m r o) = objsOK b L m
  | [], _ => rfl
  | x :: m, h => by
    simp only [upd]
    split
    · rename_i e
      simp only [objsOK]
      rw [if_pos (by omega), if_pos (by omega)]
    · simp only [objsOK, upd_len, objsOK_upd (m := m) h]
attribute [simp] fresh_ok objsOK_cons objsOK_self O.under rnd

section
variable {cf : CF} {b L : Nat} {kill : List Nat} {c : VC}
/-- A loop over a list, with a state: out is what it comes to, with the rest of the list from place i on. -/
theorem loop_each {α σ : Type} (l : List α) (Hd : Nat → σ → List V) (Mm : Nat → σ → Mem) (I : Nat → σ → Prop) (out : List α → Nat → σ → Rs)
    (hend : ∀ s, I l.length s → ex cf b c (Hd l.length s) (Mm l.length s) = some (out [] l.length s) ∧ (out [] l.length s).ends = true)
    (hs : ∀ i a rest s, l[i]? = some a → l.drop i = a :: rest → i < l.length → I i s →
      (ex cf b c (Hd i s) (Mm i s) = some (out (a :: rest) i s) ∧ (out (a :: rest) i s).ends = true) ∨
      ∃ s', rnd cf b L kill c (Hd i s) (Mm i s) = some (Hd (i + 1) s', Mm (i + 1) s') ∧ I (i + 1) s' ∧ out (a :: rest) i s = out rest (i + 1) s') :
    ∀ (s : σ) (vars : List V) (m : Mem), I 0 s → fresh b L kill vars m = some (Hd 0 s, Mm 0 s) → loopL cf b L kill c vars m = some (out l 0 s) := by
  intro s vars m hI h
  refine loop_list l Hd Mm I out hend (fun i a rest s ha hd hI => ?_) l 0 s vars m rfl (Nat.zero_le _) hI h
  rcases hs i a rest s ha hd (List.getElem?_eq_some_iff.1 ha).1 hI with h | ⟨s', h1, h2, h3⟩
  · exact .inl h
  · obtain ⟨v', m', h4, h5⟩ := rnd_some h1
    exact .inr ⟨v', m', s', h4, h5, h2, h3⟩
end

/-! ### bytes -/
theorem bytesV_len (s : List UInt8) : (bytesV s).length = s.length := by simp [bytesV]
theorem bytesV_take (bs : List UInt8) (n : Nat) : (bytesV bs).take n = bytesV (bs.take n) := by simp [bytesV, List.map_take]
theorem bytesV_drop (bs : List UInt8) (n : Nat) : (bytesV bs).drop n = bytesV (bs.drop n) := by simp [bytesV, List.map_drop]
theorem bytesV_append (a b : List UInt8) : bytesV (a ++ b) = bytesV a ++ bytesV b := by simp [bytesV]
theorem bytesV_get (a : List UInt8) (i : Nat) : (bytesV a)[i]? = (a[i]?).map fun c => .int .u8 c.toNat := by simp [bytesV]
theorem strOf_bytes : ∀ l : List UInt8, strOf (bytesV l) = some l
  | [] => rfl
  | c :: l => by
    have := strOf_bytes l
    simp only [bytesV, List.map_cons] at this ⊢
    simp only [strOf, this]
    simp
theorem bytesV_inj : ∀ {a b : List UInt8}, bytesV a = bytesV b → a = b
  | [], [], _ => rfl
  | x :: a, y :: b, h => by
    have h1 := strOf_bytes (x :: a)
    rw [h, strOf_bytes] at h1
    exact (Option.some.inj h1).symm
  | [], _ :: _, h => by simp [bytesV] at h
  | _ :: _, [], h => by simp [bytesV] at h
end Go.Vm
-- VmScan: Loops that go over a list and may end early.
namespace Go.Vm
open Go
section
variable {cf : CF} {b L : Nat} {kill : List Nat} {c : VC}
/-- A loop that ends at the first element that is not as it should be. -/
theorem loop_scan {α : Type} (l : List α) (p : α → Bool) (Hd : Nat → List V) (Mm : Nat → Mem) (E : Rs) (R : Nat → α → Rs)
    (hend : ex cf b c (Hd l.length) (Mm l.length) = some E ∧ E.ends = true)
    (hgo : ∀ i a, l[i]? = some a → i < l.length → p a = true → rnd cf b L kill c (Hd i) (Mm i) = some (Hd (i + 1), Mm (i + 1)))
    (hbad : ∀ i a, l[i]? = some a → i < l.length → p a = false → ex cf b c (Hd i) (Mm i) = some (R i a) ∧ (R i a).ends = true)
    {vars : List V} {m : Mem} (h0 : fresh b L kill vars m = some (Hd 0, Mm 0)) :
    (l.all p = true ∧ loopL cf b L kill c vars m = some E) ∨ (l.all p = false ∧ ∃ i a, l[i]? = some a ∧ i < l.length ∧ p a = false ∧ loopL cf b L kill c vars m = some (R i a)) := by
  have key : ∀ (rest : List α) (i : Nat) (vars : List V) (m : Mem), l.drop i = rest → i ≤ l.length → fresh b L kill vars m = some (Hd i, Mm i) →
      (rest.all p = true ∧ loopL cf b L kill c vars m = some E) ∨ (rest.all p = false ∧ ∃ i a, l[i]? = some a ∧ i < l.length ∧ p a = false ∧ loopL cf b L kill c vars m = some (R i a)) := by
    intro rest
    induction rest with
    | nil =>
      intro i vars m hd hi h
      have e : i = l.length := by
        have : (l.drop i).length = 0 := by rw [hd]; rfl
        rw [List.length_drop] at this; omega
      subst e
      exact .inl ⟨rfl, loop_end h hend.1 hend.2⟩
    | cons a rest ih =>
      intro i vars m hd hi h
      have ha : l[i]? = some a := by
        have : (l.drop i)[0]? = some a := by rw [hd]; rfl
        simpa using this
      have hlt : i < l.length := (List.getElem?_eq_some_iff.1 ha).1
      cases hp : p a with
      | false =>
        obtain ⟨h1, h2⟩ := hbad i a ha hlt hp
        exact .inr ⟨by simp [hp], i, a, ha, hlt, hp, loop_end h h1 h2⟩
      | true =>
        obtain ⟨v', m', h4, h5⟩ := rnd_some (hgo i a ha hlt hp)
        rcases ih (i + 1) v' m' (by rw [← List.drop_drop, hd]; rfl) (by omega) h5 with ⟨h6, h7⟩ | ⟨h6, j, a', h7, h8, h9, h10⟩
        · exact .inl ⟨by simp [hp, h6], by rw [loop_next h h4]; exact h7⟩
        · exact .inr ⟨by simp [hp, h6], j, a', h7, h8, h9, by rw [loop_next h h4]; exact h10⟩
  exact key l 0 vars m rfl (Nat.zero_le _) h0
end

theorem part_z {a : V} {l : List V} : part (a :: l) 0 none = some a := rfl
theorem part_s {a : V} {l : List V} {n : Nat} : part (a :: l) (n + 1) none = part l n none := rfl
theorem bytesV_nil : bytesV [] = [] := rfl
@[simp] theorem underL_bytes (n : Nat) (l : List UInt8) : V.underL n (bytesV l) = true := by
  induction l with
  | nil => rfl
  | cons c l ih => simp only [bytesV, List.map_cons, V.underL, V.under, Bool.true_and]; exact ih
@[simp] theorem fits_bytes (l : List UInt8) : (bytesV l).all (V.fits 1) = true := by simp [bytesV]
theorem ibeq {a b : Int} (h : a ≠ b) : (a == b) = false := by simpa using h
theorem ibne {a b : Int} (h : a ≠ b) : (a != b) = true := by simpa using h
theorem wrap_succ {i : Nat} (h : i < 4611686018427387904) : IntKind.i64.wrap ((i : Int) + 1) = (i : Int) + 1 := wrap64_id (by omega) (by omega)
theorem int_lt {i n : Nat} (h : i < n) : (i : Int) < (n : Int) := by omega
theorem bytes_beq (a b : List UInt8) : (a == b) = decide (a = b) := by
  by_cases h : a = b <;> simp [h]
end Go.Vm
