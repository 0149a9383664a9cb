/- Part 3 of the ground under the rows: One operation: what the pure machine says is what the model does. Operations that leave memory alone. -/
import Derived.Test.YtcifkahbdimkbaaGreatDoorM02
import Derived.Laws.BytesString
import Derived.Lib.ConvBytes
import Derived.Laws.BytesArg
set_option linter.unusedSimpArgs false
set_option linter.unusedVariables false
-- VmO: One operation: what the pure machine says is what the model does. Operations that leave memory alone.
namespace Go.Vm
open Go Go.RowKit

def OpDone (P : Program) (w0 : World) (ρ : Operand → Value) (o : Oper) (φ : Phi) (g : List GO) (m : Mem) (w : World) (v : V) (m' : Mem) : Prop :=
  ∃ nx cv w' φ' g', (execOp ρ o).run P w = .ok nx w' ∧ (nx = .value cv ∨ (nx = .skip ∧ cv = undef)) ∧ Goes w0 φ g m φ' g' m' w' ∧ Rep φ' g' m' v cv

section
variable {P : Program} {w0 : World} {φ : Phi} {g : List GO} {m : Mem} {w : World} {ρ : Operand → Value} {o : Oper}

theorem OpDone.same (hi : Inv w0 φ g m w) {v : V} {cv : Value} (hr : (execOp ρ o).run P w = .ok (.value cv) w) (h : Rep φ g m v cv) : OpDone P w0 ρ o φ g m w v m :=
  ⟨_, cv, w, φ, g, hr, .inl rfl, Goes.refl hi, h⟩

theorem Rep.ofC {v : V} {c : Value} (h : RepC φ v c) : Rep φ g m v c := h.rep v c

theorem obind {α β : Type} {x : Option α} {f : α → Option β} {y : β} (h : x.bind f = some y) : ∃ a, x = some a ∧ f a = some y := by
  cases x with
  | none => simp at h
  | some a => exact ⟨a, rfl, h⟩
theorem omap {α β : Type} {x : Option α} {f : α → β} {y : β} (h : x.map f = some y) : ∃ a, x = some a ∧ f a = y := by
  cases x with
  | none => simp at h
  | some a => exact ⟨a, rfl, by simpa using h⟩

mutual
theorem vOf_rep : ∀ (c : Value) (v : V), vOf c = some v → RepC φ v c
  | .bool b, v, h => by simp [vOf] at h; subst h; rfl
  | .int k n, v, h => by simp [vOf] at h; subst h; rfl
  | .string s, v, h => by
    simp [vOf] at h; subst h
    show Value.string s = _
    simp
  | .pointer none, v, h => by simp [vOf] at h; subst h; rfl
  | .pointer (some a), v, h => by simp [vOf] at h
  | .slice none 0 0, v, h => by simp [vOf] at h; subst h; exact .inl ⟨rfl, rfl, rfl⟩
  | .slice none 0 (n + 1), v, h => by simp [vOf] at h
  | .slice none (n + 1) _, v, h => by simp [vOf] at h
  | .slice (some a) _ _, v, h => by simp [vOf] at h
  | .map none, v, h => by simp [vOf] at h; subst h; rfl
  | .map (some _), v, h => by simp [vOf] at h
  | .func (.func f) ⟨[]⟩ ⟨[]⟩, v, h => by simp [vOf] at h; subst h; exact ⟨[], [], rfl, RepCL.nil, RepCL.nil⟩
  | .func (.func f) ⟨_ :: _⟩ _, v, h => by simp [vOf] at h
  | .func (.func f) ⟨[]⟩ ⟨_ :: _⟩, v, h => by simp [vOf] at h
  | .func (.method _) _ _, v, h => by simp [vOf] at h
  | .func (.methodOf _ _) _ _, v, h => by simp [vOf] at h
  | .func (.via _ _ _ _) _ _, v, h => by simp [vOf] at h
  | .func (.yield _) _ _, v, h => by simp [vOf] at h
  | .nilFunc, v, h => by simp [vOf] at h; subst h; rfl
  | .nilIface, v, h => by simp [vOf] at h; subst h; rfl
  | .agg ⟨cs⟩, v, h => by
    simp only [vOf] at h
    obtain ⟨l, hl, rfl⟩ := omap h
    have := vOfL_rep cs l hl
    exact ⟨cs, rfl, this.1, this.2⟩
  | .float _ _, v, h => by simp [vOf] at h
  | .complex _ _ _, v, h => by simp [vOf] at h
  | .chan _, v, h => by simp [vOf] at h
  | .iface _ _, v, h => by simp [vOf] at h
  | .tuple _, v, h => by simp [vOf] at h
theorem vOfL_rep : ∀ (c : List Value) (v : List V), vOfL c = some v → RepCL φ v c ∧ ∀ x ∈ c, x.oneCell' = true
  | [], v, h => by simp [vOfL] at h; subst h; exact ⟨RepCL.nil, by simp⟩
  | x :: l, v, h => by
    simp only [vOfL] at h
    split at h
    · rename_i hl
      obtain ⟨a, h1, h⟩ := obind h
      obtain ⟨b, h2, rfl⟩ := omap h
      have := vOfL_rep l b h2
      refine ⟨RepCL.cons (vOf_rep x a h1) this.1, fun y hy => ?_⟩
      rcases List.mem_cons.1 hy with rfl | hy
      · cases y <;> first | rfl | simp [isLeaf] at hl
      · exact this.2 y hy
    · simp at h
end

variable {A : Ann} {F : FAnn} {past : List (Option Tmp)} {e : Opd → V}

/-- Operands are told. -/
def Told (A : Ann) (F : FAnn) (past : List (Option Tmp)) (φ : Phi) (g : List GO) (m : Mem) (e : Opd → V) (ρ : Operand → Value) : Prop :=
  ∀ x y, opdOf A F past x = some y → Rep φ g m (e y) (ρ x)

theorem rep_bool {b : Bool} {c : Value} (h : Rep φ g m (.bool b) c) : c = .bool b := h
theorem rep_int {k : IntKind} {n : Int} {c : Value} (h : Rep φ g m (.int k n) c) : c = .int k n := h
theorem rep_str {s : List UInt8} {c : Value} (h : Rep φ g m (.str s) c) : c = .string ⟨s.toArray⟩ := h

@[simp] theorem size_mk (s : List UInt8) : (ByteArray.mk s.toArray).size = s.length := by simp [ByteArray.size]



theorem told_map (ht : Told A F past φ g m e ρ) : ∀ {l : List Operand} {ys : List Opd}, mapM' (opdOf A F past) l = some ys → RepL φ g m (ys.map e) (l.map ρ)
  | [], ys, h => by simp [mapM'] at h; subst h; exact RepL.nil
  | x :: l, ys, h => by
    simp only [mapM'] at h
    obtain ⟨y, h1, h⟩ := obind h
    obtain ⟨ys', h2, rfl⟩ := omap h
    exact RepL.cons (ht x y h1) (told_map ht h2)

theorem op_move (hi : Inv w0 φ g m w) (ht : Told A F past φ g m e ρ) {x : Operand} (ho : o.op = .move x ∨ o.op = .assign x) {y : Opd} (hx : opdOf A F past x = some y) {v : V}
    (hv : pureOp e (.mov y) = some v) : OpDone P w0 ρ o φ g m w v m := by
  simp [pureOp] at hv; subst hv
  exact OpDone.same hi (by rcases ho with ho | ho <;> simp [execOp, ho]) (ht x y hx)

theorem op_pick (hi : Inv w0 φ g m w) (ht : Told A F past φ g m e ρ) {c a b : Operand} (ho : o.op = .pick c a b) {c' a' b' : Opd} (hc : opdOf A F past c = some c') (ha : opdOf A F past a = some a')
    (hb : opdOf A F past b = some b') {v : V} (hv : pureOp e (.pick c' a' b') = some v) : OpDone P w0 ρ o φ g m w v m := by
  have h1 := ht c c' hc
  have h2 := ht a a' ha
  have h3 := ht b b' hb
  simp only [pureOp] at hv
  split at hv
  · rename_i t he
    rw [he] at h1
    have h1 := rep_bool h1
    cases hv
    refine OpDone.same hi (cv := if t then ρ a else ρ b) (by simp [execOp, ho, h1, asBool]) ?_
    cases t <;> simpa
  · simp at hv

theorem op_not (hi : Inv w0 φ g m w) (ht : Told A F past φ g m e ρ) {t : TypeId} {x : Operand} (ho : o.op = .unOp .not t x) {y : Opd} (hx : opdOf A F past x = some y) {v : V}
    (hv : pureOp e (.not y) = some v) : OpDone P w0 ρ o φ g m w v m := by
  have h1 := ht x y hx
  simp only [pureOp] at hv
  split at hv
  · rename_i b he
    rw [he] at h1
    have h1 := rep_bool h1
    cases hv
    exact OpDone.same hi (cv := .bool !b) (by simp [execOp, ho, h1, Op.unary]) rfl
  · simp at hv

theorem op_neg (hi : Inv w0 φ g m w) (ht : Told A F past φ g m e ρ) {t : TypeId} {x : Operand} (ho : o.op = .unOp .neg t x) {y : Opd} (hx : opdOf A F past x = some y) {v : V}
    (hv : pureOp e (.neg y) = some v) : OpDone P w0 ρ o φ g m w v m := by
  have h1 := ht x y hx
  simp only [pureOp] at hv
  split at hv
  · rename_i k n he
    rw [he] at h1
    have h1 := rep_int h1
    cases hv
    exact OpDone.same hi (cv := .int k (k.wrap (0 - n))) (by simp [execOp, ho, h1, Op.unary, Op.intArith]) rfl
  · simp at hv

theorem op_nilck (hi : Inv w0 φ g m w) (ht : Told A F past φ g m e ρ) {x : Operand} (ho : o.op = .nilCheck x) {y : Opd} (hx : opdOf A F past x = some y) {v : V}
    (hv : pureOp e (.nilck y) = some v) : OpDone P w0 ρ o φ g m w v m := by
  have h1 := ht x y hx
  simp only [pureOp] at hv
  split at hv
  · rename_i r q he
    rw [he] at h1
    obtain ⟨blk, k1, k2⟩ := h1
    cases hv
    exact OpDone.same hi (cv := ρ x) (by simp [execOp, ho, k2]) ⟨blk, k1, k2⟩
  · rename_i r q he
    rw [he] at h1
    have h1' := h1
    obtain ⟨a, ev, k1, k2, k3, k4⟩ := h1
    cases hv
    exact OpDone.same hi (cv := ρ x) (by simp [execOp, ho, k4]) h1'
  · rename_i f a b he
    rw [he] at h1
    have h1' := h1
    obtain ⟨l, k, k1, k2⟩ := h1
    cases hv
    exact OpDone.same hi (cv := ρ x) (by simp [execOp, ho, k1]) h1'
  · simp at hv

theorem op_conv (hi : Inv w0 φ g m w) (ht : Told A F past φ g m e ρ) {s d : TypeId} {x : Operand} (ho : o.op = .convert s d x) {k k' : IntKind} (hs : P.underlying s = some (.int k')) (hd : P.underlying d = some (.int k)) {y : Opd}
    (hx : opdOf A F past x = some y) {v : V} (hv : pureOp e (.conv k y) = some v) : OpDone P w0 ρ o φ g m w v m := by
  have h1 := ht x y hx
  simp only [pureOp] at hv
  split at hv
  · rename_i k' n he
    rw [he] at h1
    have h1 := rep_int h1
    cases hv
    exact OpDone.same hi (cv := .int k (k.wrap n)) (by simp [execOp, ho, h1, convert, run_underlying hs, run_underlying hd, Conv.intToInt]) rfl
  · simp at hv

theorem op_chr (hi : Inv w0 φ g m w) (ht : Told A F past φ g m e ρ) {s d : TypeId} {x : Operand} (ho : o.op = .convert s d x) {k' : IntKind} (hs : P.underlying s = some (.int k')) (hd : P.underlying d = some .string) {y : Opd}
    (hx : opdOf A F past x = some y) {v : V} (hv : pureOp e (.chr y) = some v) : OpDone P w0 ρ o φ g m w v m := by
  have h1 := ht x y hx
  simp only [pureOp] at hv
  split at hv
  · rename_i k' n he
    rw [he] at h1
    have h1 := rep_int h1
    cases hv
    exact OpDone.same hi (cv := .string (Utf8.encode n)) (by simp [execOp, ho, h1, convert, run_underlying hs, run_underlying hd, Conv.intToString]) (by simp [Rep, RepC])
  · simp at hv

theorem op_mkifc (hi : Inv w0 φ g m w) (ht : Told A F past φ g m e ρ) {t : TypeId} {x : Operand} (ho : o.op = .makeInterface t x) {d : TypeDesc} (hd : P.underlying t = some d) (hn : ∀ ms, d ≠ .interface ms) {y : Opd}
    (hx : opdOf A F past x = some y) {v : V} (hv : pureOp e (.mkifc t y) = some v) : OpDone P w0 ρ o φ g m w v m := by
  have h1 := ht x y hx
  simp [pureOp] at hv; subst hv
  refine OpDone.same hi (cv := .iface t (ρ x)) ?_ ⟨_, rfl, h1⟩
  simp only [execOp, ho, Instr.makeInterface, Sem.run_bind, run_underlying hd, Result.andThen_ok]
  cases d <;> first | exact absurd rfl (hn _) | simp

theorem op_mkfn (hi : Inv w0 φ g m w) (ht : Told A F past φ g m e ρ) {f : FuncId} {a b : Array Operand} (ho : o.op = .makeFunc (.func f) a b) {a' b' : List Opd} (ha : mapM' (opdOf A F past) a.toList = some a')
    (hb : mapM' (opdOf A F past) b.toList = some b') {v : V} (hv : pureOp e (.mkfn f a' b') = some v) : OpDone P w0 ρ o φ g m w v m := by
  simp [pureOp] at hv; subst hv
  refine OpDone.same hi (cv := .func (.func f) (a.map ρ) (b.map ρ)) (by simp [execOp, ho, Instr.makeFunc]) ⟨a.toList.map ρ, b.toList.map ρ, ?_, told_map ht ha, told_map ht hb⟩
  rw [← Array.toList_map, ← Array.toList_map]

theorem op_ext (hi : Inv w0 φ g m w) (ht : Told A F past φ g m e ρ) {x : Operand} {i : Nat} (ho : o.op = .extract x i) {y : Opd} (hx : opdOf A F past x = some y) {v : V}
    (hv : pureOp e (.ext y i) = some v) : OpDone P w0 ρ o φ g m w v m := by
  have h1 := ht x y hx
  simp only [pureOp] at hv
  split at hv
  · rename_i vs he
    rw [he] at h1
    obtain ⟨l, k1, k2⟩ := h1
    obtain ⟨c, k3, k4⟩ := k2.get hv
    exact OpDone.same hi (cv := c) (by simp [execOp, ho, k1, Instr.extract, k3]) k4
  · simp at hv

theorem op_lenS (hi : Inv w0 φ g m w) (ht : Told A F past φ g m e ρ) {c : Call} {x : Operand} {t : TypeId} (ho : o.op = .call c) (hc : c.callee = .builtin .len) (ha : c.args = #[x]) (hty : c.argTypes[0]? = some t)
    (hu : P.underlying t = some .string) {y : Opd} (hx : opdOf A F past x = some y) {v : V} (hv : pureOp e (.len true y) = some v) : OpDone P w0 ρ o φ g m w v m := by
  have h1 := ht x y hx
  simp only [pureOp] at hv
  split at hv
  · rename_i s _ he
    rw [he] at h1
    have h1 := rep_str h1
    cases hv
    exact OpDone.same hi (cv := .int .i64 s.length) (by simp [execOp, ho, hc, ha, resolve, invoke, builtin, Builtin.len_, hty, run_underlying hu, h1, goInt]) rfl
  all_goals simp_all

theorem op_lenL (hi : Inv w0 φ g m w) (ht : Told A F past φ g m e ρ) {c : Call} {x : Operand} {t el : TypeId} (ho : o.op = .call c) (hc : c.callee = .builtin .len) (ha : c.args = #[x]) (hty : c.argTypes[0]? = some t)
    (hu : P.underlying t = some (.slice el)) {y : Opd} (hx : opdOf A F past x = some y) {v : V} (hv : pureOp e (.len false y) = some v) : OpDone P w0 ρ o φ g m w v m := by
  have h1 := ht x y hx
  simp only [pureOp] at hv
  split at hv
  · simp_all
  · rename_i nl sz xs _ he
    rw [he] at h1
    cases hv
    rcases h1 with ⟨_, h2, h3⟩ | ⟨_, a, cap, evs, h3, _⟩
    · exact OpDone.same hi (cv := .int .i64 0) (by simp [execOp, ho, hc, ha, resolve, invoke, builtin, Builtin.len_, hty, run_underlying hu, h3, goInt]) (by subst h2; rfl)
    · exact OpDone.same hi (cv := .int .i64 xs.length) (by simp [execOp, ho, hc, ha, resolve, invoke, builtin, Builtin.len_, hty, run_underlying hu, h3, goInt]) rfl
  · rename_i k n _ he
    rw [he] at h1
    cases hv
    obtain ⟨_, _, _, _, _, _, _, _, _, h1⟩ := h1
    rcases h1 with ⟨_, h2, h3⟩ | ⟨_, a, cap, h3, _⟩
    · exact OpDone.same hi (cv := .int .i64 0) (by simp [execOp, ho, hc, ha, resolve, invoke, builtin, Builtin.len_, hty, run_underlying hu, h3, goInt]) (by subst h2; rfl)
    · exact OpDone.same hi (cv := .int .i64 n) (by simp [execOp, ho, hc, ha, resolve, invoke, builtin, Builtin.len_, hty, run_underlying hu, h3, goInt]) rfl
  · simp at hv

theorem op_min (hi : Inv w0 φ g m w) (ht : Told A F past φ g m e ρ) {c : Call} {x x' : Operand} (ho : o.op = .call c) (hc : c.callee = .builtin .min) (ha : c.args = #[x, x']) {y y' : Opd} (hx : opdOf A F past x = some y)
    (hx' : opdOf A F past x' = some y') {v : V} (hv : pureOp e (.min y y') = some v) : OpDone P w0 ρ o φ g m w v m := by
  have h1 := ht x y hx
  have h2 := ht x' y' hx'
  simp only [pureOp] at hv
  split at hv
  · rename_i k a k' b he he'
    rw [he] at h1; rw [he'] at h2
    have h1 := rep_int h1
    have h2 := rep_int h2
    split at hv
    · cases hv
      exact OpDone.same hi (cv := .int k (if b < a then b else a)) (by simp [execOp, ho, hc, ha, resolve, invoke, builtin, Builtin.min_, Builtin.min2, h1, h2]) rfl
    · simp at hv
  · simp at hv

theorem op_max (hi : Inv w0 φ g m w) (ht : Told A F past φ g m e ρ) {c : Call} {x x' : Operand} (ho : o.op = .call c) (hc : c.callee = .builtin .max) (ha : c.args = #[x, x']) {y y' : Opd} (hx : opdOf A F past x = some y)
    (hx' : opdOf A F past x' = some y') {v : V} (hv : pureOp e (.max y y') = some v) : OpDone P w0 ρ o φ g m w v m := by
  have h1 := ht x y hx
  have h2 := ht x' y' hx'
  simp only [pureOp] at hv
  split at hv
  · rename_i k a k' b he he'
    rw [he] at h1; rw [he'] at h2
    have h1 := rep_int h1
    have h2 := rep_int h2
    split at hv
    · cases hv
      exact OpDone.same hi (cv := .int k (if b > a then b else a)) (by simp [execOp, ho, hc, ha, resolve, invoke, builtin, Builtin.max_, Builtin.max2, h1, h2]) rfl
    · simp at hv
  · simp at hv

theorem op_tassert (hi : Inv w0 φ g m w) (ht : Told A F past φ g m e ρ) {x : Operand} {t0 t : TypeId} (ho : o.op = .typeAssert x t0 t true) {d : TypeDesc} (hd : P.underlying t = some d) (hn : ∀ ms, d ≠ .interface ms) {z : V}
    (hz : zeroT P t = some z) {y : Opd} (hx : opdOf A F past x = some y) {v : V} (hv : pureOp e (.tassert t z y) = some v) : OpDone P w0 ρ o φ g m w v m := by
  have h1 := ht x y hx
  obtain ⟨i, hi1, hz⟩ := obind hz
  obtain ⟨cz, hi2, hz⟩ := obind hz
  have hzr : Rep φ g m z cz := (vOf_rep cz z hz).rep z cz
  have hzero : (zeroValue t).run P w = .ok cz w := by simp [zeroValue, typeInfo, hi1, hi2]
  simp only [pureOp] at hv
  have hcase : ∀ (d : TypeDesc), (∀ ms, d ≠ .interface ms) → True := fun _ _ => trivial
  split at hv
  · rename_i he
    rw [he] at h1
    have h1 : ρ x = .nilIface := h1
    cases hv
    refine OpDone.same hi (cv := .tuple #[cz, .bool false]) ?_ ⟨[cz, .bool false], rfl, RepL.cons hzr (RepL.cons rfl RepL.nil)⟩
    simp only [execOp, ho, Instr.typeAssert, Sem.run_bind, run_underlying hd, Result.andThen_ok, h1]
    cases d <;> first | exact absurd rfl (hn _) | simp [hzero]
  · rename_i u cv he
    rw [he] at h1
    obtain ⟨c, h1, h2⟩ := h1
    split at hv
    · rename_i hu
      cases hv
      refine OpDone.same hi (cv := .tuple #[c, .bool true]) ?_ ⟨[c, .bool true], rfl, RepL.cons h2 (RepL.cons rfl RepL.nil)⟩
      simp only [execOp, ho, Instr.typeAssert, Sem.run_bind, run_underlying hd, Result.andThen_ok, h1]
      cases d <;> first | exact absurd rfl (hn _) | simp [hu]
    · rename_i hu
      cases hv
      refine OpDone.same hi (cv := .tuple #[cz, .bool false]) ?_ ⟨[cz, .bool false], rfl, RepL.cons hzr (RepL.cons rfl RepL.nil)⟩
      simp only [execOp, ho, Instr.typeAssert, Sem.run_bind, run_underlying hd, Result.andThen_ok, h1]
      cases d <;> first | exact absurd rfl (hn _) | simp [hu, hzero]
  · simp at hv

theorem nilT_some {t : TypeId} {z : Operand} {k : NK} (h : nilT P t z = some k) :
    (k = .slice ∧ ∃ el, P.underlying t = some (.slice el) ∧ z = .const (.slice none 0 0)) ∨ (k = .func ∧ ∃ a b c, P.underlying t = some (.func a b c) ∧ z = .const .nilFunc) ∨
    (k = .ptr ∧ ∃ el, P.underlying t = some (.pointer el) ∧ z = .const (.pointer none)) := by
  unfold nilT at h
  split at h
  · rename_i el h1; cases h; exact .inl ⟨rfl, el, h1, rfl⟩
  · rename_i a b c h1; cases h; exact .inr (.inl ⟨rfl, a, b, c, h1, rfl⟩)
  · rename_i el h1; cases h; exact .inr (.inr ⟨rfl, el, h1, rfl⟩)
  · simp at h

theorem equal_of {t : TypeId} {x y : Value} {b : Bool} (h : ∀ d, (Op.equalIn (d + 1) t x y).run P w = .ok b w) : (Op.equal t x y).run P w = .ok b w := h 9999

theorem eqGuard_ok {op : BinOp} {t : TypeId} {x z : Operand} (cx cz : Value) (n1 : ∀ c, cx ≠ .agg c) (n4 : cx ≠ .nilIface) : (eqGuard op t x z cx cz).run P w = .ok () w := by
  cases cx <;> first
    | exact absurd rfl (n1 _)
    | exact absurd rfl n4
    | (cases op <;> simp [eqGuard])

theorem eqGuard_agg {op : BinOp} {t : TypeId} {x z : Operand} (p q : Array Value) (hg : P.eqGuardType P.depth t = false) : (eqGuard op t x z (.agg p) (.agg q)).run P w = .ok () w := by
  unfold eqGuard
  cases op <;> simp [hg]

/-- '==' and '!=' that the model asks of the type. -/
theorem op_eq (hi : Inv w0 φ g m w) {t t' : TypeId} {x z : Operand} {neg : Bool} (ho : o.op = .binOp (if neg then .neq else .eql) t x z t') {b : Bool} (hb : (Op.equal t (ρ x) (ρ z)).run P w = .ok b w)
    (hg : (eqGuard (if neg then .neq else .eql) t x z (ρ x) (ρ z)).run P w = .ok () w)
    (n2 : ∀ k n, ρ x ≠ .int k n) (n3 : ∀ s, ρ x ≠ .string s) (n5 : ∀ k n, ρ x ≠ .float k n) (n6 : ∀ k a b, ρ x ≠ .complex k a b) (n7 : ∀ k n, ρ z ≠ .int k n) : OpDone P w0 ρ o φ g m w (.bool (b != neg)) m := by
  refine OpDone.same hi (cv := .bool (b != neg)) ?_ rfl
  simp only [execOp, ho, Sem.run_bind, hg, Result.andThen_ok]
  have hbin : (binOp (if neg then .neq else .eql) t (ρ x) (ρ z)).run P w = .ok (.bool (b != neg)) w := by
    generalize ρ x = cx at *
    generalize ρ z = cz at *
    cases neg <;> cases cx <;> first
      | exact absurd rfl (n2 _ _)
      | exact absurd rfl (n3 _)
      | exact absurd rfl (n5 _ _)
      | exact absurd rfl (n6 _ _ _)
      | (cases cz <;> first | exact absurd rfl (n7 _ _) | (simp [binOp, hb]; done))
  simp [hbin]

/-- Slices, functions, pointers against nil. -/
theorem op_eqnil (hi : Inv w0 φ g m w) (ht : Told A F past φ g m e ρ) (hc : ∀ v, ρ (.const v) = v) {t t' : TypeId} {x z : Operand} {neg : Bool} (ho : o.op = .binOp (if neg then .neq else .eql) t x z t') {k : NK} (hn : nilT P t z = some k) {y : Opd}
    (hx : opdOf A F past x = some y) {v : V} (hv : pureOp e (.eqnil k y neg) = some v ∨ readOp m e (.eqnil k y neg) = some v) : OpDone P w0 ρ o φ g m w v m := by
  have h1 := ht x y hx
  have fin : ∀ (b : Bool), (∀ d, (Op.equalIn (d + 1) t (ρ x) (ρ z)).run P w = .ok b w) → (∀ c, ρ x ≠ .agg c) ∧ (∀ k n, ρ x ≠ .int k n) ∧ (∀ s, ρ x ≠ .string s) ∧ (ρ x ≠ .nilIface) ∧ (∀ k n, ρ x ≠ .float k n) ∧ (∀ k a b, ρ x ≠ .complex k a b) ∧ (∀ k n, ρ z ≠ .int k n) → v = .bool (b != neg) → OpDone P w0 ρ o φ g m w v m := by
    rintro b hb ⟨n1, n2, n3, n4, n5, n6, n7⟩ e1
    subst e1
    exact op_eq hi ho (equal_of hb) (eqGuard_ok _ _ n1 n4) n2 n3 n5 n6 n7
  rcases nilT_some hn with ⟨rfl, el, hu, rfl⟩ | ⟨rfl, a, b, c, hu, rfl⟩ | ⟨rfl, el, hu, rfl⟩
  · simp only [hc] at fin
    rcases hv with hv | hv
    · simp only [pureOp] at hv
      split at hv <;> try (simp_all; done)
      rename_i nl sz xs _ he
      rw [he] at h1
      cases hv
      rcases h1 with ⟨h0, _, h3⟩ | ⟨h0, a, cap, evs, h3, _⟩
      · exact fin true (fun d => by simp [Op.equalIn, run_underlying hu, h3]) (by simp [h3]) (by rw [h0])
      · exact fin false (fun d => by simp [Op.equalIn, run_underlying hu, h3]) (by simp [h3]) (by rw [h0])
    · simp only [readOp] at hv
      split at hv <;> try (simp_all; done)
      rename_i k n he
      rw [he] at h1
      obtain ⟨sz, born, xs, ra, rc, k1, k2, k3, k4, h1⟩ := h1
      rw [k1] at hv
      cases hv
      rcases h1 with ⟨h0, h0', h3⟩ | ⟨h0, a, cap, h3, _⟩
      · exact fin true (fun d => by simp [Op.equalIn, run_underlying hu, h3]) (by simp [h3]) (by rw [h0, h0']; rfl)
      · refine fin false (fun d => by simp [Op.equalIn, run_underlying hu, h3]) (by simp [h3]) ?_
        have : (born && n == 0) = false := by
          cases born with
          | false => rfl
          | true => simp; exact fun hh => h0 ⟨rfl, hh⟩
        rw [this]
  · simp only [hc] at fin
    rcases hv with hv | hv
    · simp only [pureOp] at hv
      split at hv <;> try (simp_all; done)
      · rename_i he
        rw [he] at h1
        have h3 : ρ x = .nilFunc := h1
        cases hv
        exact fin true (fun d => by simp [Op.equalIn, run_underlying hu, h3]) (by simp [h3]) (by simp)
      · rename_i he
        rw [he] at h1
        obtain ⟨_, _, h3, _⟩ := h1
        cases hv
        exact fin false (fun d => by simp [Op.equalIn, run_underlying hu, h3]) (by simp [h3]) (by simp)
    · simp [readOp] at hv
  · simp only [hc] at fin
    rcases hv with hv | hv
    · simp only [pureOp] at hv
      split at hv <;> try (simp_all; done)
      · rename_i he
        rw [he] at h1
        have h3 : ρ x = .pointer none := h1
        cases hv
        exact fin true (fun d => by simp [Op.equalIn, run_underlying hu, h3]) (by simp [h3]) (by simp)
      · rename_i he
        rw [he] at h1
        obtain ⟨_, _, h3⟩ := h1
        cases hv
        exact fin false (fun d => by simp [Op.equalIn, run_underlying hu, h3]) (by simp [h3]) (by simp)
    · simp [readOp] at hv
end
end Go.Vm
