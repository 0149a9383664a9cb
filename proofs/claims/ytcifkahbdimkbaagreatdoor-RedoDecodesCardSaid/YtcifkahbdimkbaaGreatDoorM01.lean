/- Part 1 of the ground under the rows: What the pure machine's values and memory have to do with the model's. -/
import Derived.Test.YtcifkahbdimkbaaGreatDoorM00
import Derived.Below
import Derived.ArgAppend
set_option linter.unusedSimpArgs false
set_option linter.unusedVariables false
-- VmB: What the pure machine's values and memory have to do with the model's.
namespace Go.Vm
open Go Go.RowKit

/-- Cells that are known for good. -/
abbrev Phi := Addr → Option Value

def InMem (φ : Phi) (a : Addr) (cs : List Value) : Prop := ∀ i v, cs[i]? = some v → φ (a.add i) = some v

def flat (l : List Value) : List Value := l.flatMap fun v => v.cells.toList

/-- Where an object lies: a block; a row that grows: what its last value is. -/
inductive GO where
  | obj (blk : Nat)
  | row (a : Option Addr) (cap : Nat)

mutual
/-- A value without addresses, and the model's. -/
def RepC (φ : Phi) : V → Value → Prop
  | .undef, _ => True
  | .bool b, c => c = .bool b
  | .int k n, c => c = .int k n
  | .str s, c => c = .string ⟨s.toArray⟩
  | .nilp, c => c = .pointer none
  | .ptr _ _, _ => False
  | .ep x o, c => ∃ a ev, RepC φ x ev ∧ x.fits x.cells.length = true ∧ InMem φ a ev.cells.toList ∧ c = .pointer (some (a.add o))
  | .sl nl sz xs, c => (nl = true ∧ xs = [] ∧ c = .slice none 0 0) ∨
      (nl = false ∧ ∃ a cap evs, c = .slice (some a) xs.length cap ∧ xs.length ≤ cap ∧ RepCL φ xs evs ∧ (∀ x ∈ xs, x.fits sz = true) ∧ InMem φ a (flat evs))
  | .gs _ _, _ => False
  | .fn f first cap, c => ∃ l m : List Value, c = .func (.func f) l.toArray m.toArray ∧ RepCL φ first l ∧ RepCL φ cap m
  | .nilf, c => c = .nilFunc
  | .ifc t v, c => ∃ cv, c = .iface t cv ∧ RepC φ v cv
  | .nili, c => c = .nilIface
  | .agg cs, c => ∃ l : List Value, c = .agg l.toArray ∧ RepCL φ cs l ∧ ∀ v ∈ l, v.oneCell' = true
  | .tup vs, c => ∃ l : List Value, c = .tuple l.toArray ∧ RepCL φ vs l
  | .nilm, c => c = .map none
  | .mp _ _, _ => False
  | .gm _, _ => False
def RepCL (φ : Phi) : List V → List Value → Prop
  | [], l => l = []
  | v :: vs, l => ∃ c cs, l = c :: cs ∧ RepC φ v c ∧ RepCL φ vs cs
end

/-- Elements at an address. -/
def Els (φ : Phi) (a : Addr) (sz : Nat) (xs : List V) : Prop := ∃ evs, RepCL φ xs evs ∧ (∀ x ∈ xs, x.fits sz = true) ∧ InMem φ a (flat evs)

def GsRep (φ : Phi) (g : List GO) (m : Mem) (k n : Nat) (c : Value) : Prop :=
  ∃ sz born xs ra rcap, look m k = some (.buf sz born xs) ∧ look g k = some (.row ra rcap) ∧ n ≤ xs.length ∧ (n = xs.length → c = .slice ra n rcap) ∧
    ((born = true ∧ n = 0 ∧ c = .slice none 0 0) ∨ (¬ (born = true ∧ n = 0) ∧ ∃ a cap, c = .slice (some a) n cap ∧ n ≤ cap ∧ Els φ a sz (xs.take n)))

mutual
def Rep (φ : Phi) (g : List GO) (m : Mem) : V → Value → Prop
  | .ptr r o, c => ∃ blk, look g r = some (.obj blk) ∧ c = .pointer (some ⟨blk, o, none⟩)
  | .gs k n, c => GsRep φ g m k n c
  | .fn f first cap, c => ∃ l k : List Value, c = .func (.func f) l.toArray k.toArray ∧ RepL φ g m first l ∧ RepL φ g m cap k
  | .ifc t v, c => ∃ cv, c = .iface t cv ∧ Rep φ g m v cv
  | .agg cs, c => ∃ l : List Value, c = .agg l.toArray ∧ RepL φ g m cs l ∧ ∀ v ∈ l, v.oneCell' = true
  | .tup vs, c => ∃ l : List Value, c = .tuple l.toArray ∧ RepL φ g m vs l
  | .undef, c => RepC φ .undef c
  | .bool b, c => RepC φ (.bool b) c
  | .int k n, c => RepC φ (.int k n) c
  | .str s, c => RepC φ (.str s) c
  | .nilp, c => RepC φ .nilp c
  | .ep x o, c => RepC φ (.ep x o) c
  | .sl nl sz xs, c => RepC φ (.sl nl sz xs) c
  | .nilf, c => RepC φ .nilf c
  | .nili, c => RepC φ .nili c
  | .nilm, c => RepC φ .nilm c
  | .mp ks vs, c => RepC φ (.mp ks vs) c
  | .gm k, c => RepC φ (.gm k) c
def RepL (φ : Phi) (g : List GO) (m : Mem) : List V → List Value → Prop
  | [], l => l = []
  | v :: vs, l => ∃ c cs, l = c :: cs ∧ Rep φ g m v c ∧ RepL φ g m vs cs
end

/-! ### lists with numbers from the end -/
section
variable {α : Type}
theorem look_lt : ∀ {m : List α} {r : Nat} {o : α}, look m r = some o → r < m.length
  | [], _, _, h => by simp [look] at h
  | x :: m, r, o, h => by
    simp only [look] at h
    split at h
    · simp; omega
    · have := look_lt h; simp; omega

theorem look_some : ∀ {m : List α} {r : Nat}, r < m.length → ∃ o, look m r = some o
  | [], _, h => by simp at h
  | x :: m, r, h => by
    simp only [look]
    split
    · exact ⟨_, rfl⟩
    · exact look_some (by simp at h; omega)

theorem look_none {m : List α} {r : Nat} (h : m.length ≤ r) : look m r = none := by
  cases hl : look m r with
  | none => rfl
  | some o => have := look_lt hl; omega

theorem look_cons_self (o : α) (m : List α) : look (o :: m) m.length = some o := by simp [look]
theorem look_cons_ne {o : α} {m : List α} {r : Nat} (h : r ≠ m.length) : look (o :: m) r = look m r := by simp [look, h]
theorem look_cons_lt {o : α} {m : List α} {r : Nat} (h : r < m.length) : look (o :: m) r = look m r := look_cons_ne (by omega)

@[simp] theorem length_upd : ∀ (m : List α) (r : Nat) (o : α), (upd m r o).length = m.length
  | [], _, _ => rfl
  | x :: m, r, o => by
    simp only [upd]
    split
    · simp
    · simp [length_upd m r o]

theorem look_upd_self : ∀ {m : List α} {r : Nat} {o : α}, r < m.length → look (upd m r o) r = some o
  | [], _, _, h => by simp at h
  | x :: m, r, o, h => by
    simp only [upd]
    split
    · rename_i e; simp [look, e]
    · rename_i e
      simp at h
      simp only [look, length_upd, e, if_false]
      exact look_upd_self (by omega)

theorem look_upd_ne : ∀ {m : List α} {r q : Nat} {o : α}, q ≠ r → look (upd m r o) q = look m q
  | [], _, _, _, _ => rfl
  | x :: m, r, q, o, h => by
    simp only [upd]
    split
    · rename_i e
      simp only [look]
      by_cases hq : q = m.length
      · omega
      · simp [hq]
    · simp only [look, length_upd]
      split
      · rfl
      · exact look_upd_ne h

theorem length_dropTo : ∀ (L : Nat) (m : List α), (dropTo L m).length = min L m.length
  | _, [] => by simp [dropTo]
  | L, x :: m => by
    simp only [dropTo]
    split
    · simp; omega
    · rw [length_dropTo L m]; simp; omega

theorem look_dropTo : ∀ {L : Nat} {m : List α} {r : Nat}, r < L → look (dropTo L m) r = look m r
  | _, [], _, _ => by simp [dropTo]
  | L, x :: m, r, h => by
    simp only [dropTo]
    split
    · rfl
    · rename_i hl
      rw [look_dropTo h, look_cons_ne (by omega)]

theorem dropTo_of_le : ∀ {L : Nat} {m : List α}, m.length ≤ L → dropTo L m = m
  | _, [], _ => rfl
  | L, x :: m, h => by
    simp only [dropTo]
    rw [if_pos (by simp at h; omega)]
end

/-! ### growth -/
def Ext (φ φ' : Phi) : Prop := ∀ a v, φ a = some v → φ' a = some v
theorem Ext.refl (φ : Phi) : Ext φ φ := fun _ _ h => h
theorem Ext.trans {a b c : Phi} (h : Ext a b) (k : Ext b c) : Ext a c := fun x v e => k x v (h x v e)

theorem InMem.ext {φ φ' : Phi} {a : Addr} {l : List Value} (h : InMem φ a l) (e : Ext φ φ') : InMem φ' a l := fun i v hi => e _ _ (h i v hi)

mutual
theorem RepC.ext {φ φ' : Phi} (e : Ext φ φ') : ∀ (v : V) (c : Value), RepC φ v c → RepC φ' v c
  | .undef, _, _ => trivial
  | .bool _, _, h => h
  | .int _ _, _, h => h
  | .str _, _, h => h
  | .nilp, _, h => h
  | .ptr _ _, _, h => h
  | .ep x o, c, ⟨a, ev, h1, hf, h2, h3⟩ => ⟨a, ev, RepC.ext e x ev h1, hf, h2.ext e, h3⟩
  | .sl nl sz xs, c, h => by
    rcases h with h | ⟨h0, a, cap, evs, h1, h2, h3, h4, h5⟩
    · exact .inl h
    · exact .inr ⟨h0, a, cap, evs, h1, h2, RepCL.ext e xs evs h3, h4, h5.ext e⟩
  | .gs _ _, _, h => h
  | .fn _ first cap, c, ⟨l, m, h1, h2, h3⟩ => ⟨l, m, h1, RepCL.ext e first l h2, RepCL.ext e cap m h3⟩
  | .nilf, _, h => h
  | .ifc _ v, c, ⟨cv, h1, h2⟩ => ⟨cv, h1, RepC.ext e v cv h2⟩
  | .nili, _, h => h
  | .agg cs, c, ⟨l, h1, h2, h3⟩ => ⟨l, h1, RepCL.ext e cs l h2, h3⟩
  | .tup vs, c, ⟨l, h1, h2⟩ => ⟨l, h1, RepCL.ext e vs l h2⟩
  | .nilm, _, h => h
  | .mp _ _, _, h => h
  | .gm _, _, h => h
theorem RepCL.ext {φ φ' : Phi} (e : Ext φ φ') : ∀ (l : List V) (c : List Value), RepCL φ l c → RepCL φ' l c
  | [], _, h => h
  | v :: l, c, ⟨x, cs, h1, h2, h3⟩ => ⟨x, cs, h1, RepC.ext e v x h2, RepCL.ext e l cs h3⟩
end

theorem Els.ext {φ φ' : Phi} {a : Addr} {sz : Nat} {xs : List V} (h : Els φ a sz xs) (e : Ext φ φ') : Els φ' a sz xs :=
  let ⟨evs, h1, h2, h3⟩ := h; ⟨evs, RepCL.ext e _ _ h1, h2, h3.ext e⟩

/-- Of the first n objects: what stays through any run. -/
structure Le (n : Nat) (g : List GO) (m : Mem) (g' : List GO) (m' : Mem) : Prop where
  obj : ∀ r, r < n → ∀ blk, look g r = some (.obj blk) → look g' r = some (.obj blk)
  row : ∀ r, r < n → ∀ sz born xs, look m r = some (.buf sz born xs) → ∀ ra rcap, look g r = some (.row ra rcap) →
    ∃ ys ra' rcap', look m' r = some (.buf sz born (xs ++ ys)) ∧ look g' r = some (.row ra' rcap') ∧ (ys = [] → ra' = ra ∧ rcap' = rcap)

theorem Le.refl (n : Nat) (g : List GO) (m : Mem) : Le n g m g m :=
  ⟨fun _ _ _ h => h, fun _ _ _ _ xs hx ra rc hr => ⟨[], ra, rc, by simpa using hx, hr, fun _ => ⟨rfl, rfl⟩⟩⟩

theorem Le.trans {n : Nat} {g g' g'' : List GO} {m m' m'' : Mem} (h : Le n g m g' m') (k : Le n g' m' g'' m'') : Le n g m g'' m'' := by
  refine ⟨fun r hr blk e => k.obj r hr blk (h.obj r hr blk e), fun r hr sz born xs hx ra rc hg => ?_⟩
  obtain ⟨ys, ra', rc', h1, h2, h3⟩ := h.row r hr sz born xs hx ra rc hg
  obtain ⟨zs, ra'', rc'', k1, k2, k3⟩ := k.row r hr sz born (xs ++ ys) h1 ra' rc' h2
  refine ⟨ys ++ zs, ra'', rc'', by simpa using k1, k2, fun e => ?_⟩
  have e1 : ys = [] := by cases ys with | nil => rfl | cons => simp at e
  have e2 : zs = [] := by cases zs with | nil => rfl | cons => simp at e
  have := h3 e1; have := k3 e2
  simp_all

theorem Le.mono {n n' : Nat} {g g' : List GO} {m m' : Mem} (h : Le n g m g' m') (hn : n' ≤ n) : Le n' g m g' m' :=
  ⟨fun r hr => h.obj r (by omega), fun r hr => h.row r (by omega)⟩

theorem Le.cons (g : List GO) (m : Mem) (x : GO) (o : O) (h : g.length = m.length) : Le m.length g m (x :: g) (o :: m) := by
  refine ⟨fun r hr blk e => by rw [look_cons_lt (by omega)]; exact e, fun r hr sz born xs hx ra rc hg => ⟨[], ra, rc, ?_, ?_, fun _ => ⟨rfl, rfl⟩⟩⟩
  · rw [look_cons_lt (by omega)]; simpa using hx
  · rw [look_cons_lt (by omega)]; exact hg

theorem Le.drop (g : List GO) (m : Mem) (L : Nat) : Le L g m (dropTo L g) (dropTo L m) := by
  refine ⟨fun r hr blk e => by rw [look_dropTo hr]; exact e, fun r hr sz born xs hx ra rc hg => ⟨[], ra, rc, ?_, ?_, fun _ => ⟨rfl, rfl⟩⟩⟩
  · rw [look_dropTo hr]; simpa using hx
  · rw [look_dropTo hr]; exact hg

theorem GsRep.mono {φ φ' : Phi} {g g' : List GO} {m m' : Mem} {n k l : Nat} {c : Value} (e : Ext φ φ') (le : Le n g m g' m') (hk : k < n)
    (h : GsRep φ g m k l c) : GsRep φ' g' m' k l c := by
  obtain ⟨sz, born, xs, ra, rc, h1, h2, h3, h4, h5⟩ := h
  obtain ⟨ys, ra', rc', k1, k2, k3⟩ := le.row k hk sz born xs h1 ra rc h2
  refine ⟨sz, born, xs ++ ys, ra', rc', k1, k2, by simp; omega, fun hl => ?_, ?_⟩
  · have hy : ys = [] := by
      have : l = xs.length + ys.length := by simpa using hl
      exact List.eq_nil_of_length_eq_zero (by omega)
    obtain ⟨e1, e2⟩ := k3 hy
    rw [e1, e2]; exact h4 (by subst hy; simpa using hl)
  · rcases h5 with h5 | ⟨h5, a, cap, h6, h7, h8⟩
    · exact .inl h5
    · refine .inr ⟨h5, a, cap, h6, h7, ?_⟩
      rw [List.take_append_of_le_length h3]
      exact h8.ext e

mutual
theorem Rep.mono {φ φ' : Phi} {g g' : List GO} {m m' : Mem} {n : Nat} (e : Ext φ φ') (le : Le n g m g' m') :
    ∀ (v : V) (c : Value), v.under n = true → Rep φ g m v c → Rep φ' g' m' v c
  | .ptr r o, c, hu, ⟨blk, h1, h2⟩ => ⟨blk, le.obj r (by simpa [V.under] using hu) blk h1, h2⟩
  | .gs k l, c, hu, h => GsRep.mono e le (by simpa [V.under] using hu) h
  | .fn f first cap, c, hu, ⟨l, k, h1, h2, h3⟩ => by
    simp [V.under] at hu
    exact ⟨l, k, h1, RepL.mono e le first l hu.1 h2, RepL.mono e le cap k hu.2 h3⟩
  | .ifc t v, c, hu, ⟨cv, h1, h2⟩ => ⟨cv, h1, Rep.mono e le v cv (by simpa [V.under] using hu) h2⟩
  | .agg cs, c, hu, ⟨l, h1, h2, h3⟩ => ⟨l, h1, RepL.mono e le cs l (by simpa [V.under] using hu) h2, h3⟩
  | .tup vs, c, hu, ⟨l, h1, h2⟩ => ⟨l, h1, RepL.mono e le vs l (by simpa [V.under] using hu) h2⟩
  | .undef, c, _, h => RepC.ext e .undef c h
  | .bool b, c, _, h => RepC.ext e (.bool b) c h
  | .int k i, c, _, h => RepC.ext e (.int k i) c h
  | .str s, c, _, h => RepC.ext e (.str s) c h
  | .nilp, c, _, h => RepC.ext e .nilp c h
  | .ep x o, c, _, h => RepC.ext e (.ep x o) c h
  | .sl nl sz xs, c, _, h => RepC.ext e (.sl nl sz xs) c h
  | .nilf, c, _, h => RepC.ext e .nilf c h
  | .nili, c, _, h => RepC.ext e .nili c h
  | .nilm, c, _, h => RepC.ext e .nilm c h
  | .mp ks vs, c, _, h => RepC.ext e (.mp ks vs) c h
  | .gm k, c, _, h => RepC.ext e (.gm k) c h
theorem RepL.mono {φ φ' : Phi} {g g' : List GO} {m m' : Mem} {n : Nat} (e : Ext φ φ') (le : Le n g m g' m') :
    ∀ (l : List V) (c : List Value), V.underL n l = true → RepL φ g m l c → RepL φ' g' m' l c
  | [], _, _, h => h
  | v :: l, c, hu, ⟨x, cs, h1, h2, h3⟩ => by
    simp [V.underL] at hu
    exact ⟨x, cs, h1, Rep.mono e le v x hu.1 h2, RepL.mono e le l cs hu.2 h3⟩
end

mutual
theorem Rep.under {φ : Phi} {g : List GO} {m : Mem} : ∀ (v : V) (c : Value), Rep φ g m v c → v.under g.length = true
  | .ptr r o, c, ⟨blk, h1, _⟩ => by simpa [V.under] using look_lt h1
  | .gs k l, c, ⟨_, _, _, _, _, _, h2, _⟩ => by simpa [V.under] using look_lt h2
  | .fn f first cap, c, ⟨l, k, _, h2, h3⟩ => by simp [V.under, RepL.under first l h2, RepL.under cap k h3]
  | .ifc t v, c, ⟨cv, _, h2⟩ => by simp [V.under, Rep.under v cv h2]
  | .agg cs, c, ⟨l, _, h2, _⟩ => by simp [V.under, RepL.under cs l h2]
  | .tup vs, c, ⟨l, _, h2⟩ => by simp [V.under, RepL.under vs l h2]
  | .undef, c, _ => rfl
  | .bool b, c, _ => rfl
  | .int k i, c, _ => rfl
  | .str s, c, _ => rfl
  | .nilp, c, _ => rfl
  | .ep x o, c, _ => rfl
  | .sl nl sz xs, c, _ => rfl
  | .nilf, c, _ => rfl
  | .nili, c, _ => rfl
  | .nilm, c, _ => rfl
  | .mp ks vs, c, _ => rfl
  | .gm k, c, h => absurd h (by simp [Rep, RepC])
theorem RepL.under {φ : Phi} {g : List GO} {m : Mem} : ∀ (l : List V) (c : List Value), RepL φ g m l c → V.underL g.length l = true
  | [], _, _ => rfl
  | v :: l, c, ⟨x, cs, _, h2, h3⟩ => by simp [V.underL, Rep.under v x h2, RepL.under l cs h3]
end

mutual
/-- A value without addresses reads so whatever memory is. -/
theorem Rep.closed {φ : Phi} {g : List GO} {m : Mem} : ∀ (v : V) (c : Value), v.under 0 = true → Rep φ g m v c → RepC φ v c
  | .ptr r o, c, hu, _ => by simp [V.under] at hu
  | .gs k l, c, hu, _ => by simp [V.under] at hu
  | .fn f first cap, c, hu, ⟨l, k, h1, h2, h3⟩ => by
    simp [V.under] at hu
    exact ⟨l, k, h1, RepL.closed first l hu.1 h2, RepL.closed cap k hu.2 h3⟩
  | .ifc t v, c, hu, ⟨cv, h1, h2⟩ => ⟨cv, h1, Rep.closed v cv (by simpa [V.under] using hu) h2⟩
  | .agg cs, c, hu, ⟨l, h1, h2, h3⟩ => ⟨l, h1, RepL.closed cs l (by simpa [V.under] using hu) h2, h3⟩
  | .tup vs, c, hu, ⟨l, h1, h2⟩ => ⟨l, h1, RepL.closed vs l (by simpa [V.under] using hu) h2⟩
  | .undef, c, _, h => h
  | .bool b, c, _, h => h
  | .int k i, c, _, h => h
  | .str s, c, _, h => h
  | .nilp, c, _, h => h
  | .ep x o, c, _, h => h
  | .sl nl sz xs, c, _, h => h
  | .nilf, c, _, h => h
  | .nili, c, _, h => h
  | .nilm, c, _, h => h
  | .mp ks vs, c, _, h => h
  | .gm k, c, _, h => h
theorem RepL.closed {φ : Phi} {g : List GO} {m : Mem} : ∀ (l : List V) (c : List Value), V.underL 0 l = true → RepL φ g m l c → RepCL φ l c
  | [], _, _, h => h
  | v :: l, c, hu, ⟨x, cs, h1, h2, h3⟩ => by
    simp [V.underL] at hu
    exact ⟨x, cs, h1, Rep.closed v x hu.1 h2, RepL.closed l cs hu.2 h3⟩
end

mutual
theorem RepC.rep {φ : Phi} {g : List GO} {m : Mem} : ∀ (v : V) (c : Value), RepC φ v c → Rep φ g m v c
  | .ptr r o, c, h => absurd h (by simp [RepC])
  | .gs k l, c, h => absurd h (by simp [RepC])
  | .fn f first cap, c, ⟨l, k, h1, h2, h3⟩ => ⟨l, k, h1, RepCL.rep first l h2, RepCL.rep cap k h3⟩
  | .ifc t v, c, ⟨cv, h1, h2⟩ => ⟨cv, h1, RepC.rep v cv h2⟩
  | .agg cs, c, ⟨l, h1, h2, h3⟩ => ⟨l, h1, RepCL.rep cs l h2, h3⟩
  | .tup vs, c, ⟨l, h1, h2⟩ => ⟨l, h1, RepCL.rep vs l h2⟩
  | .undef, c, h => h
  | .bool b, c, h => h
  | .int k i, c, h => h
  | .str s, c, h => h
  | .nilp, c, h => h
  | .ep x o, c, h => h
  | .sl nl sz xs, c, h => h
  | .nilf, c, h => h
  | .nili, c, h => h
  | .nilm, c, h => h
  | .mp ks vs, c, h => h
  | .gm k, c, h => h
theorem RepCL.rep {φ : Phi} {g : List GO} {m : Mem} : ∀ (l : List V) (c : List Value), RepCL φ l c → RepL φ g m l c
  | [], _, h => h
  | v :: l, c, ⟨x, cs, h1, h2, h3⟩ => ⟨x, cs, h1, RepC.rep v x h2, RepCL.rep l cs h3⟩
end
end Go.Vm
-- VmD: Lists of values that are told; what memory must be like.
namespace Go.Vm
open Go Go.RowKit

section
variable {φ : Phi} {g : List GO} {m : Mem}

theorem RepCL.length : ∀ {l : List V} {c : List Value}, RepCL φ l c → l.length = c.length
  | [], _, h => by rw [RepCL] at h; subst h; rfl
  | v :: l, _, ⟨x, cs, e, _, h⟩ => by subst e; simp [RepCL.length h]

theorem RepL.length : ∀ {l : List V} {c : List Value}, RepL φ g m l c → l.length = c.length
  | [], _, h => by rw [RepL] at h; subst h; rfl
  | v :: l, _, ⟨x, cs, e, _, h⟩ => by subst e; simp [RepL.length h]

theorem RepCL.get : ∀ {l : List V} {c : List Value}, RepCL φ l c → ∀ {i : Nat} {v : V}, l[i]? = some v → ∃ x, c[i]? = some x ∧ RepC φ v x
  | [], _, _, i, v, h => by simp at h
  | u :: l, _, ⟨x, cs, e, h1, h2⟩, 0, v, h => by subst e; simp at h; subst h; exact ⟨x, rfl, h1⟩
  | u :: l, _, ⟨x, cs, e, h1, h2⟩, i + 1, v, h => by subst e; simpa using RepCL.get h2 (by simpa using h)

theorem RepL.get : ∀ {l : List V} {c : List Value}, RepL φ g m l c → ∀ {i : Nat} {v : V}, l[i]? = some v → ∃ x, c[i]? = some x ∧ Rep φ g m v x
  | [], _, _, i, v, h => by simp at h
  | u :: l, _, ⟨x, cs, e, h1, h2⟩, 0, v, h => by subst e; simp at h; subst h; exact ⟨x, rfl, h1⟩
  | u :: l, _, ⟨x, cs, e, h1, h2⟩, i + 1, v, h => by subst e; simpa using RepL.get h2 (by simpa using h)

theorem RepCL.append : ∀ {l k : List V} {c d : List Value}, RepCL φ l c → RepCL φ k d → RepCL φ (l ++ k) (c ++ d)
  | [], _, _, _, h, h' => by rw [RepCL] at h; subst h; exact h'
  | v :: l, _, _, _, ⟨x, cs, e, h1, h2⟩, h' => by subst e; exact ⟨x, _, rfl, h1, RepCL.append h2 h'⟩

theorem RepL.append : ∀ {l k : List V} {c d : List Value}, RepL φ g m l c → RepL φ g m k d → RepL φ g m (l ++ k) (c ++ d)
  | [], _, _, _, h, h' => by rw [RepL] at h; subst h; exact h'
  | v :: l, _, _, _, ⟨x, cs, e, h1, h2⟩, h' => by subst e; exact ⟨x, _, rfl, h1, RepL.append h2 h'⟩

theorem RepCL.take : ∀ {l : List V} {c : List Value} (n : Nat), RepCL φ l c → RepCL φ (l.take n) (c.take n)
  | [], _, n, h => by rw [RepCL] at h; subst h; simp [RepCL]
  | v :: l, _, 0, _ => by simp [RepCL]
  | v :: l, _, n + 1, ⟨x, cs, e, h1, h2⟩ => by subst e; exact ⟨x, _, rfl, h1, RepCL.take n h2⟩

theorem RepCL.drop : ∀ {l : List V} {c : List Value} (n : Nat), RepCL φ l c → RepCL φ (l.drop n) (c.drop n)
  | [], _, n, h => by rw [RepCL] at h; subst h; simp [RepCL]
  | v :: l, _, 0, h => by simpa using h
  | v :: l, _, n + 1, ⟨x, cs, e, h1, h2⟩ => by subst e; simpa using RepCL.drop n h2

theorem RepL.take : ∀ {l : List V} {c : List Value} (n : Nat), RepL φ g m l c → RepL φ g m (l.take n) (c.take n)
  | [], _, n, h => by rw [RepL] at h; subst h; simp [RepL]
  | v :: l, _, 0, _ => by simp [RepL]
  | v :: l, _, n + 1, ⟨x, cs, e, h1, h2⟩ => by subst e; exact ⟨x, _, rfl, h1, RepL.take n h2⟩

theorem RepL.drop : ∀ {l : List V} {c : List Value} (n : Nat), RepL φ g m l c → RepL φ g m (l.drop n) (c.drop n)
  | [], _, n, h => by rw [RepL] at h; subst h; simp [RepL]
  | v :: l, _, 0, h => by simpa using h
  | v :: l, _, n + 1, ⟨x, cs, e, h1, h2⟩ => by subst e; simpa using RepL.drop n h2

theorem RepL.set : ∀ {l : List V} {c : List Value} (n : Nat) {v : V} {x : Value}, RepL φ g m l c → Rep φ g m v x → RepL φ g m (l.set n v) (c.set n x)
  | [], _, n, _, _, h, _ => by rw [RepL] at h; subst h; simp [RepL]
  | u :: l, _, 0, _, x', ⟨x, cs, e, h1, h2⟩, h => by subst e; exact ⟨_, _, rfl, h, h2⟩
  | u :: l, _, n + 1, _, x', ⟨x, cs, e, h1, h2⟩, h => by subst e; exact ⟨_, _, rfl, h1, RepL.set n h2 h⟩

theorem RepL.nil : RepL φ g m [] [] := by simp [RepL]
theorem RepL.cons {v : V} {l : List V} {c : Value} {cs : List Value} (h : Rep φ g m v c) (h' : RepL φ g m l cs) : RepL φ g m (v :: l) (c :: cs) := ⟨c, cs, rfl, h, h'⟩
theorem RepCL.nil : RepCL φ [] [] := by simp [RepCL]
theorem RepCL.cons {v : V} {l : List V} {c : Value} {cs : List Value} (h : RepC φ v c) (h' : RepCL φ l cs) : RepCL φ (v :: l) (c :: cs) := ⟨c, cs, rfl, h, h'⟩

theorem RepL.map {α : Type} {f : α → V} {h : α → Value} : ∀ {l : List α}, (∀ x ∈ l, Rep φ g m (f x) (h x)) → RepL φ g m (l.map f) (l.map h)
  | [], _ => RepL.nil
  | x :: l, hh => RepL.cons (hh x (by simp)) (RepL.map fun y hy => hh y (by simp [hy]))

/-- A value that is told, but no aggregate, is one cell. -/
theorem Rep.leaf {v : V} {c : Value} (h : Rep φ g m v c) (h1 : ∀ cs, v ≠ .agg cs) (h2 : ∀ cs, v ≠ .tup cs) (h3 : v ≠ .undef) : c.oneCell' = true ∧ c.cells = #[c] ∧ v.cells = [v] := by
  cases v with
  | agg cs => exact absurd rfl (h1 cs)
  | tup cs => exact absurd rfl (h2 cs)
  | undef => exact absurd rfl h3
  | ptr r o => obtain ⟨_, _, rfl⟩ := h; exact ⟨rfl, rfl, rfl⟩
  | gs k n =>
    obtain ⟨_, _, _, _, _, _, _, _, _, h⟩ := h
    rcases h with ⟨_, _, rfl⟩ | ⟨_, _, _, rfl, _⟩ <;> exact ⟨rfl, rfl, rfl⟩
  | fn f a b => obtain ⟨_, _, rfl, _⟩ := h; exact ⟨rfl, rfl, rfl⟩
  | ifc t v => obtain ⟨_, rfl, _⟩ := h; exact ⟨rfl, rfl, rfl⟩
  | bool b => cases h; exact ⟨rfl, rfl, rfl⟩
  | int k n => cases h; exact ⟨rfl, rfl, rfl⟩
  | str s => cases h; exact ⟨rfl, rfl, rfl⟩
  | nilp => cases h; exact ⟨rfl, rfl, rfl⟩
  | ep x o => obtain ⟨_, _, _, _, _, rfl⟩ := h; exact ⟨rfl, rfl, rfl⟩
  | sl nl sz xs => rcases h with ⟨_, _, rfl⟩ | ⟨_, _, _, _, rfl, _⟩ <;> exact ⟨rfl, rfl, rfl⟩
  | nilf => cases h; exact ⟨rfl, rfl, rfl⟩
  | nili => cases h; exact ⟨rfl, rfl, rfl⟩
  | nilm => cases h; exact ⟨rfl, rfl, rfl⟩
  | mp a b => exact absurd h (by simp [Rep, RepC])
  | gm k => exact absurd h (by simp [Rep, RepC])

/-- The cells of a value that is told. -/
theorem Rep.cells {v : V} {c : Value} {n : Nat} (h : Rep φ g m v c) (hf : v.fits n = true) :
    c.cells.toList.length = n ∧ RepL φ g m v.cells c.cells.toList ∧ (∀ x ∈ c.cells.toList, x.oneCell' = true) ∧ v.cells.length = n := by
  by_cases ha : ∃ cs, v = .agg cs
  · obtain ⟨cs, rfl⟩ := ha
    obtain ⟨l, rfl, h1, h2⟩ := h
    simp [V.fits] at hf
    have := h1.length
    exact ⟨by simp [Value.cells]; omega, by simpa [Value.cells, V.cells] using h1, by simpa [Value.cells] using h2, by simpa [V.cells] using hf⟩
  · by_cases ht : ∃ cs, v = .tup cs
    · obtain ⟨cs, rfl⟩ := ht; simp [V.fits] at hf
    · by_cases hu : v = .undef
      · subst hu; simp [V.fits] at hf
      · have hn : n = 1 := by
          cases v <;> simp [V.fits] at hf <;> first | exact hf | exact absurd rfl hu | exact absurd ⟨_, rfl⟩ ha
        obtain ⟨h1, h2, h3⟩ := h.leaf (fun cs e => ha ⟨cs, e⟩) (fun cs e => ht ⟨cs, e⟩) hu
        rw [h2, h3]
        exact ⟨by simp [hn], RepL.cons h RepL.nil, by simpa using h1, by simp [hn]⟩

theorem RepC.cells {v : V} {c : Value} {n : Nat} (h : RepC φ v c) (hf : v.fits n = true) : c.cells.toList.length = n ∧ (∀ x ∈ c.cells.toList, x.oneCell' = true) := by
  have := Rep.cells (g := []) (m := []) (h.rep v c) hf
  exact ⟨this.1, this.2.2.1⟩

theorem RepC.cellsC {v : V} {c : Value} {n : Nat} (h : RepC φ v c) (hf : v.fits n = true) : RepCL φ v.cells c.cells.toList := by
  cases v with
  | agg cs => obtain ⟨l, rfl, h1, _⟩ := h; simpa [V.cells, Value.cells] using h1
  | undef => simp [V.fits] at hf
  | tup vs => simp [V.fits] at hf
  | _ =>
    have := Rep.leaf (g := []) (m := []) (RepC.rep _ _ h) (by simp) (by simp) (by simp)
    rw [this.2.1]
    exact RepCL.cons h RepCL.nil

/-- The cells of told elements, one behind the other. -/
theorem flat_length {sz : Nat} : ∀ {xs : List V} {evs : List Value}, RepCL φ xs evs → (∀ x ∈ xs, x.fits sz = true) → (flat evs).length = xs.length * sz
  | [], _, h, _ => by rw [RepCL] at h; subst h; simp [flat]
  | v :: l, _, ⟨x, cs, e, h1, h2⟩, hf => by
    subst e
    have h3 := flat_length (sz := sz) h2 (fun y hy => hf y (by simp [hy]))
    have h4 := (h1.cells (hf v (by simp))).1
    simp only [flat, List.flatMap_cons, List.length_append, List.length_cons] at h3 ⊢
    rw [h3, h4, Nat.add_mul]; omega

theorem flat_oneCell {sz : Nat} : ∀ {xs : List V} {evs : List Value}, RepCL φ xs evs → (∀ x ∈ xs, x.fits sz = true) → ∀ v ∈ flat evs, v.oneCell' = true
  | [], _, h, _ => by rw [RepCL] at h; subst h; simp [flat]
  | u :: l, _, ⟨x, cs, e, h1, h2⟩, hf => by
    subst e
    intro v hv
    simp only [flat, List.flatMap_cons, List.mem_append] at hv
    rcases hv with hv | hv
    · exact (h1.cells (hf u (by simp))).2 v hv
    · exact flat_oneCell (sz := sz) h2 (fun y hy => hf y (by simp [hy])) v hv

theorem flat_append (a b : List Value) : flat (a ++ b) = flat a ++ flat b := by simp [flat]

theorem Addr.add_add (a : Addr) (i j : Nat) : (a.add i).add j = a.add (i + j) := by
  unfold Addr.add
  by_cases hi : i = 0
  · subst hi; simp
  · by_cases hj : j = 0
    · subst hj; simp [hi]
    · have : i + j ≠ 0 := by omega
      simp [hi, hj, this, Nat.add_assoc]

/-- One element's cells. -/
theorem flat_get {sz : Nat} : ∀ {xs : List V} {evs : List Value}, RepCL φ xs evs → (∀ x ∈ xs, x.fits sz = true) → ∀ (i : Nat) (ev : Value), evs[i]? = some ev →
    ∀ j v, ev.cells.toList[j]? = some v → (flat evs)[i * sz + j]? = some v
  | [], _, h, _ => by rw [RepCL] at h; subst h; simp
  | u :: l, _, ⟨x, cs, e, h1, h2⟩, hf => by
    subst e
    intro i ev hi j v hj
    have h4 := (h1.cells (hf u (by simp))).1
    simp only [flat, List.flatMap_cons]
    cases i with
    | zero =>
      simp at hi; subst hi
      rw [List.getElem?_append_left]
      · simpa using hj
      · have := (List.getElem?_eq_some_iff.1 hj).1; omega
    | succ i =>
      have := flat_get (sz := sz) h2 (fun y hy => hf y (by simp [hy])) i ev (by simpa using hi) j v hj
      rw [List.getElem?_append_right (by rw [h4, Nat.add_mul]; omega)]
      rw [h4]
      have e : (i + 1) * sz + j - sz = i * sz + j := by rw [Nat.add_mul]; omega
      rw [e]; exact this

theorem Els.get {a : Addr} {sz : Nat} {xs : List V} (h : Els φ a sz xs) {i : Nat} {x : V} (hi : xs[i]? = some x) :
    ∃ ev, RepC φ x ev ∧ x.fits sz = true ∧ InMem φ (a.add (i * sz)) ev.cells.toList := by
  obtain ⟨evs, h1, h2, h3⟩ := h
  obtain ⟨ev, h4, h5⟩ := h1.get hi
  refine ⟨ev, h5, h2 x (List.mem_of_getElem? hi), fun j v hj => ?_⟩
  rw [Addr.add_add]
  exact h3 _ _ (flat_get h1 h2 i ev h4 j v hj)

theorem InMem.drop {a : Addr} {l : List Value} (h : InMem φ a l) (n : Nat) : InMem φ (a.add n) (l.drop n) := by
  intro i v hi
  rw [Addr.add_add]
  exact h _ _ (by simpa using hi)

theorem InMem.take {a : Addr} {l : List Value} (h : InMem φ a l) (n : Nat) : InMem φ a (l.take n) := by
  intro i v hi
  rw [List.getElem?_take] at hi
  split at hi
  · exact h _ _ hi
  · simp at hi

theorem flat_take {sz : Nat} : ∀ {xs : List V} {evs : List Value} (n : Nat), RepCL φ xs evs → (∀ x ∈ xs, x.fits sz = true) → flat (evs.take n) = (flat evs).take (n * sz)
  | [], _, n, h, _ => by rw [RepCL] at h; subst h; simp [flat]
  | u :: l, _, n, ⟨x, cs, e, h1, h2⟩, hf => by
    subst e
    have h4 := (h1.cells (hf u (by simp))).1
    cases n with
    | zero => simp [flat]
    | succ n =>
      have := flat_take (sz := sz) n h2 (fun y hy => hf y (by simp [hy]))
      simp only [flat, List.take_succ_cons, List.flatMap_cons] at this ⊢
      rw [this, List.take_append, h4]
      rw [List.take_of_length_le (l := x.cells.toList) (by rw [h4, Nat.add_mul]; omega)]
      congr 2
      rw [Nat.add_mul]; omega

theorem flat_drop {sz : Nat} : ∀ {xs : List V} {evs : List Value} (n : Nat), RepCL φ xs evs → (∀ x ∈ xs, x.fits sz = true) → flat (evs.drop n) = (flat evs).drop (n * sz)
  | [], _, n, h, _ => by rw [RepCL] at h; subst h; simp [flat]
  | u :: l, _, n, ⟨x, cs, e, h1, h2⟩, hf => by
    subst e
    have h4 := (h1.cells (hf u (by simp))).1
    cases n with
    | zero => simp [flat]
    | succ n =>
      have := flat_drop (sz := sz) n h2 (fun y hy => hf y (by simp [hy]))
      simp only [flat, List.drop_succ_cons, List.flatMap_cons] at this ⊢
      rw [this, List.drop_append, h4]
      rw [List.drop_of_length_le (l := x.cells.toList) (by rw [h4, Nat.add_mul]; omega)]
      simp only [List.nil_append]
      congr 1
      rw [Nat.add_mul]; omega

theorem Els.take {a : Addr} {sz : Nat} {xs : List V} (h : Els φ a sz xs) (n : Nat) : Els φ a sz (xs.take n) := by
  obtain ⟨evs, h1, h2, h3⟩ := h
  refine ⟨evs.take n, h1.take n, fun x hx => h2 x (List.mem_of_mem_take hx), ?_⟩
  rw [flat_take n h1 h2]; exact h3.take _

theorem Els.drop {a : Addr} {sz : Nat} {xs : List V} (h : Els φ a sz xs) (n : Nat) : Els φ (a.add (n * sz)) sz (xs.drop n) := by
  obtain ⟨evs, h1, h2, h3⟩ := h
  refine ⟨evs.drop n, h1.drop n, fun x hx => h2 x (List.mem_of_mem_drop hx), ?_⟩
  rw [flat_drop n h1 h2]; exact h3.drop _
end

def GO.blk : GO → Option Nat
  | .obj b => some b
  | .row a _ => a.map (·.block)

/-- A row that grows, as it lies in the world. -/
def RowAt (w0 : World) (φ : Phi) (w : World) (sz : Nat) (born : Bool) (xs : List V) (ra : Option Addr) (rcap : Nat) : Prop :=
  (ra = none ∧ rcap = 0 ∧ xs = [] ∧ born = true) ∨
  (¬ (born = true ∧ xs = []) ∧ ∃ blk, ra = some ⟨blk, 0, none⟩ ∧ w0.heap.size ≤ blk ∧ blk < w.heap.size ∧ xs.length ≤ rcap ∧ Els φ ⟨blk, 0, none⟩ sz xs ∧
    (∀ j, xs.length * sz ≤ j → (j < rcap * sz → (w.cell? ⟨blk, j, none⟩).isSome = true) ∧ w.frozen? ⟨blk, j, none⟩ = false ∧ φ ⟨blk, j, none⟩ = none) ∧ ∀ j, w.frozen? ⟨blk, j, none⟩ = false)

/-- The world that memory stands for: w0 is the world in which it all began. -/
structure Inv (w0 : World) (φ : Phi) (g : List GO) (m : Mem) (w : World) : Prop where
  len : g.length = m.length
  base : Below w0.heap.size w0 w
  known : ∀ a v, φ a = some v → w.cell? a = some v
  cells : ∀ r cs, look m r = some (.cells cs) → ∃ blk cvs, look g r = some (.obj blk) ∧ RepL φ g m cs cvs ∧ (∀ v ∈ cvs, v.oneCell' = true) ∧
    (∀ i v, cvs[i]? = some v → w.cell? ⟨blk, i, none⟩ = some v) ∧ ∀ i, w.frozen? ⟨blk, i, none⟩ = false
  iters : ∀ r s pos, look m r = some (.iter s pos) → ∃ blk, look g r = some (.obj blk) ∧ w.heap[blk]? = some (.stringIter ⟨s.toArray⟩ pos)
  maps : ∀ r ks vs, look m r ≠ some (.mapo ks vs)
  rows : ∀ k sz born xs, look m k = some (.buf sz born xs) → ∃ ra rcap, look g k = some (.row ra rcap) ∧ RowAt w0 φ w sz born xs ra rcap
  own : ∀ r blk, look g r = some (.obj blk) → w0.heap.size ≤ blk ∧ blk < w.heap.size ∧ ∀ a, a.block = blk → φ a = none
  apart : ∀ r r' x y b, look g r = some x → look g r' = some y → x.blk = some b → y.blk = some b → r = r'

/-- A step from one world to another, as memory sees it. -/
structure Goes (w0 : World) (φ : Phi) (g : List GO) (m : Mem) (φ' : Phi) (g' : List GO) (m' : Mem) (w' : World) : Prop where
  inv : Inv w0 φ' g' m' w'
  ext : Ext φ φ'
  le : Le m.length g m g' m'

theorem Goes.rep {w0 : World} {φ φ' : Phi} {g g' : List GO} {m m' : Mem} {w w' : World} (h : Goes w0 φ g m φ' g' m' w') (hi : Inv w0 φ g m w) {v : V} {c : Value}
    (hr : Rep φ g m v c) : Rep φ' g' m' v c := by
  refine Rep.mono h.ext h.le v c ?_ hr
  rw [← hi.len]; exact Rep.under v c hr
theorem Goes.repL {w0 : World} {φ φ' : Phi} {g g' : List GO} {m m' : Mem} {w w' : World} (h : Goes w0 φ g m φ' g' m' w') (hi : Inv w0 φ g m w) {v : List V} {c : List Value}
    (hr : RepL φ g m v c) : RepL φ' g' m' v c := by
  refine RepL.mono h.ext h.le v c ?_ hr
  rw [← hi.len]; exact RepL.under v c hr
theorem Goes.refl {w0 : World} {φ : Phi} {g : List GO} {m : Mem} {w : World} (hi : Inv w0 φ g m w) : Goes w0 φ g m φ g m w := ⟨hi, Ext.refl φ, Le.refl _ _ _⟩
end Go.Vm
-- VmI: Memory's relation to the world through the steps of a run: new blocks, stores, growing rows.
namespace Go.Vm
open Go Go.RowKit

section
variable {w0 : World} {φ φ' : Phi} {g : List GO} {m : Mem} {w w' : World}

theorem Inv.size_le (hi : Inv w0 φ g m w) : w0.heap.size ≤ w.heap.size := hi.base.size
theorem Inv.known_lt (hi : Inv w0 φ g m w) {a : Addr} {v : Value} (h : φ a = some v) : a.block < w.heap.size := World.block_lt_of_cell? w a (hi.known a v h)

theorem GO.blk_lt (hi : Inv w0 φ g m w) {r b : Nat} {x : GO} (hr : look g r = some x) (hx : x.blk = some b) (hb : ∀ a c, x = .row a c → ∃ sz born xs, look m r = some (.buf sz born xs)) : w0.heap.size ≤ b ∧ b < w.heap.size := by
  cases x with
  | obj blk => simp [GO.blk] at hx; subst hx; exact ⟨(hi.own r blk hr).1, (hi.own r blk hr).2.1⟩
  | row a c =>
    obtain ⟨sz, born, xs, hm⟩ := hb a c rfl
    obtain ⟨ra, rc, h1, h2⟩ := hi.rows r sz born xs hm
    rw [hr] at h1
    cases h1
    rcases h2 with ⟨h2, _⟩ | ⟨_, blk, h2, h3, h4, _⟩
    · subst h2; simp [GO.blk] at hx
    · subst h2; simp [GO.blk] at hx; subst hx; exact ⟨h3, h4⟩

theorem RowAt.below {sz : Nat} {born : Bool} {xs : List V} {ra : Option Addr} {rc : Nat} (h : RowAt w0 φ w sz born xs ra rc) (hb : Below w.heap.size w w') (e : Ext φ φ')
    (hn : ∀ blk, ra = some ⟨blk, 0, none⟩ → ∀ j, xs.length * sz ≤ j → φ' ⟨blk, j, none⟩ = φ ⟨blk, j, none⟩) : RowAt w0 φ' w' sz born xs ra rc := by
  rcases h with h | ⟨h0, blk, h1, h2, h3, h4, h5, h6, h7⟩
  · exact .inl h
  · refine .inr ⟨h0, blk, h1, h2, Nat.lt_of_lt_of_le h3 hb.size, h4, h5.ext e, fun j hj => ?_, fun j => by rw [hb.frozen (p := ⟨blk, j, none⟩) h3]; exact h7 j⟩
    have := h6 j hj
    rw [hb.cell (p := ⟨blk, j, none⟩) h3, hb.frozen (p := ⟨blk, j, none⟩) h3, hn blk h1 j hj]
    exact this

/-- The world has grown, and more of it is known: of no object's block. -/
theorem Inv.grow (hi : Inv w0 φ g m w) (hb : Below w.heap.size w w') (e : Ext φ φ') (hk : ∀ a v, φ' a = some v → w'.cell? a = some v)
    (hn : ∀ a, w0.heap.size ≤ a.block → a.block < w.heap.size → φ' a = φ a) : Inv w0 φ' g m w' := by
  have hle : Le m.length g m g m := Le.refl _ _ _
  refine ⟨hi.len, hi.base.trans (hb.mono hi.size_le), hk, ?_, ?_, hi.maps, ?_, ?_, hi.apart⟩
  · intro r cs h
    obtain ⟨blk, cvs, h1, h2, h3, h4, h5⟩ := hi.cells r cs h
    have hlt := (hi.own r blk h1).2.1
    refine ⟨blk, cvs, h1, RepL.mono e hle cs cvs (by rw [← hi.len]; exact RepL.under cs cvs h2) h2, h3, fun i v hv => ?_, fun i => ?_⟩
    · rw [hb.cell (p := ⟨blk, i, none⟩) hlt]; exact h4 i v hv
    · rw [hb.frozen (p := ⟨blk, i, none⟩) hlt]; exact h5 i
  · intro r s pos h
    obtain ⟨blk, h1, h2⟩ := hi.iters r s pos h
    exact ⟨blk, h1, by rw [hb.block blk (hi.own r blk h1).2.1]; exact h2⟩
  · intro k sz born xs h
    obtain ⟨ra, rc, h1, h2⟩ := hi.rows k sz born xs h
    refine ⟨ra, rc, h1, h2.below hb e fun blk hr j hj => hn _ ?_ ?_⟩
    · rcases h2 with h2 | ⟨_, b, h3, h4, h5, _⟩
      · rw [h2.1] at hr; cases hr
      · rw [h3] at hr; cases hr; exact h4
    · rcases h2 with h2 | ⟨_, b, h3, h4, h5, _⟩
      · rw [h2.1] at hr; cases hr
      · rw [h3] at hr; cases hr; exact h5
  · intro r blk h
    obtain ⟨h1, h2, h3⟩ := hi.own r blk h
    exact ⟨h1, Nat.lt_of_lt_of_le h2 hb.size, fun a ha => by rw [hn a (by rw [ha]; exact h1) (by rw [ha]; exact h2)]; exact h3 a ha⟩

/-- What is known once some cells of new blocks are. -/
def know (φ : Phi) (w w' : World) (K : Addr → Bool) : Phi := fun a => if a.block < w.heap.size then φ a else if K a then w'.cell? a else none

theorem know_ext (hi : Inv w0 φ g m w) (K : Addr → Bool) : Ext φ (know φ w w' K) := fun a v h => by
  have := hi.known_lt h
  simp [know, this, h]

theorem Inv.know (hi : Inv w0 φ g m w) (hb : Below w.heap.size w w') (K : Addr → Bool) : Inv w0 (know φ w w' K) g m w' := by
  refine hi.grow hb (know_ext hi K) (fun a v h => ?_) (fun a _ h => by simp [Vm.know, h])
  unfold Vm.know at h
  split at h
  · rename_i hlt
    rw [hb.cell hlt]; exact hi.known a v h
  · split at h
    · exact h
    · simp at h

theorem Inv.knowGoes (hi : Inv w0 φ g m w) (hb : Below w.heap.size w w') (K : Addr → Bool) : Goes w0 φ g m (Vm.know φ w w' K) g m w' := ⟨hi.know hb K, know_ext hi K, Le.refl _ _ _⟩

theorem know_new {K : Addr → Bool} {a : Addr} (h : w.heap.size ≤ a.block) (hK : K a = true) : Vm.know φ w w' K a = w'.cell? a := by
  simp [Vm.know, hK]; omega

theorem below_alloc (w : World) (ob : Obj) : Below w.heap.size w (w.alloc ob) := (Below.refl _ _).alloc (Nat.le_refl _) ob
theorem below_drew (w : World) : Below w.heap.size w w.drew := (Below.refl _ _).drew

theorem Inv.blk_lt (hi : Inv w0 φ g m w) {r b : Nat} {x : GO} (hr : look g r = some x) (hx : x.blk = some b) : w0.heap.size ≤ b ∧ b < w.heap.size := by
  cases x with
  | obj blk => simp [GO.blk] at hx; subst hx; exact ⟨(hi.own r blk hr).1, (hi.own r blk hr).2.1⟩
  | row a c =>
    obtain ⟨o, ho⟩ := look_some (m := m) (r := r) (by rw [← hi.len]; exact look_lt hr)
    cases o with
    | cells cs => obtain ⟨blk, _, k, _⟩ := hi.cells r cs ho; rw [hr] at k; cases k
    | iter s p => obtain ⟨blk, k, _⟩ := hi.iters r s p ho; rw [hr] at k; cases k
    | mapo ks vs => exact absurd ho (hi.maps r ks vs)
    | buf sz born xs => exact GO.blk_lt hi hr hx fun _ _ _ => ⟨sz, born, xs, ho⟩

theorem Inv.up (hi : Inv w0 φ g m w) {o : O} {x : GO} {l : List V} {c : List Value} (h : RepL φ g m l c) : RepL φ (x :: g) (o :: m) l c :=
  RepL.mono (Ext.refl φ) (Le.cons g m x o hi.len) _ _ (by rw [← hi.len]; exact RepL.under _ _ h) h

/-- A new object. -/
theorem Inv.cons (hi : Inv w0 φ g m w) (o : O) (x : GO)
    (hc : ∀ cs, o = .cells cs → ∃ blk cvs, x = .obj blk ∧ RepL φ (x :: g) (o :: m) cs cvs ∧ (∀ v ∈ cvs, v.oneCell' = true) ∧ (∀ i v, cvs[i]? = some v → w.cell? ⟨blk, i, none⟩ = some v) ∧ ∀ i, w.frozen? ⟨blk, i, none⟩ = false)
    (hit : ∀ s pos, o = .iter s pos → ∃ blk, x = .obj blk ∧ w.heap[blk]? = some (.stringIter ⟨s.toArray⟩ pos))
    (hm : ∀ ks vs, o ≠ .mapo ks vs)
    (hr : ∀ sz born xs, o = .buf sz born xs → ∃ ra rcap, x = .row ra rcap ∧ RowAt w0 φ w sz born xs ra rcap)
    (ho : ∀ blk, x = .obj blk → w0.heap.size ≤ blk ∧ blk < w.heap.size ∧ ∀ a, a.block = blk → φ a = none)
    (hd : ∀ b, x.blk = some b → ∀ r y, look g r = some y → y.blk ≠ some b) :
    Goes w0 φ g m φ (x :: g) (o :: m) w := by
  have hle : Le m.length g m (x :: g) (o :: m) := Le.cons g m _ _ hi.len
  refine ⟨⟨by simp [hi.len], hi.base, hi.known, ?_, ?_, ?_, ?_, ?_, ?_⟩, Ext.refl φ, hle⟩
  · intro r cs' h
    by_cases e : r = m.length
    · subst e
      rw [look_cons_self] at h
      obtain ⟨blk, cvs, k1, k2⟩ := hc cs' (Option.some.inj h)
      exact ⟨blk, cvs, by rw [← hi.len, look_cons_self, k1], k2⟩
    · rw [look_cons_ne e] at h
      obtain ⟨blk, cvs', k1, k2, k3, k4, k5⟩ := hi.cells r cs' h
      exact ⟨blk, cvs', by rw [look_cons_ne (by rw [hi.len]; exact e)]; exact k1, hi.up k2, k3, k4, k5⟩
  · intro r s pos h
    by_cases e : r = m.length
    · subst e; rw [look_cons_self] at h
      obtain ⟨blk, k1, k2⟩ := hit s pos (Option.some.inj h)
      exact ⟨blk, by rw [← hi.len, look_cons_self, k1], k2⟩
    · rw [look_cons_ne e] at h
      obtain ⟨blk, k1, k2⟩ := hi.iters r s pos h
      exact ⟨blk, by rw [look_cons_ne (by rw [hi.len]; exact e)]; exact k1, k2⟩
  · intro r ks vs h
    by_cases e : r = m.length
    · subst e; rw [look_cons_self] at h; exact hm ks vs (Option.some.inj h)
    · rw [look_cons_ne e] at h; exact hi.maps r ks vs h
  · intro k sz born xs h
    by_cases e : k = m.length
    · subst e; rw [look_cons_self] at h
      obtain ⟨ra, rc, k1, k2⟩ := hr sz born xs (Option.some.inj h)
      exact ⟨ra, rc, by rw [← hi.len, look_cons_self, k1], k2⟩
    · rw [look_cons_ne e] at h
      obtain ⟨ra, rc, k1, k2⟩ := hi.rows k sz born xs h
      exact ⟨ra, rc, by rw [look_cons_ne (by rw [hi.len]; exact e)]; exact k1, k2⟩
  · intro r blk h
    by_cases e : r = g.length
    · subst e; rw [look_cons_self] at h; exact ho blk (Option.some.inj h)
    · rw [look_cons_ne e] at h; exact hi.own r blk h
  · intro r r' y y' b h1 h2 h3 h4
    by_cases e : r = g.length <;> by_cases e' : r' = g.length
    · omega
    · subst e
      rw [look_cons_self] at h1; rw [look_cons_ne e'] at h2; cases h1
      exact absurd h4 (hd b h3 r' y' h2)
    · subst e'
      rw [look_cons_self] at h2; rw [look_cons_ne e] at h1; cases h2
      exact absurd h3 (hd b h4 r y h1)
    · rw [look_cons_ne e] at h1; rw [look_cons_ne e'] at h2
      exact hi.apart r r' y y' b h1 h2 h3 h4

theorem Goes.trans {φ'' : Phi} {g' g'' : List GO} {m' m'' : Mem} {w'' : World} (h : Goes w0 φ g m φ' g' m' w') (k : Goes w0 φ' g' m' φ'' g'' m'' w'') (hl : m.length ≤ m'.length) : Goes w0 φ g m φ'' g'' m'' w'' :=
  ⟨k.inv, h.ext.trans k.ext, h.le.trans (k.le.mono hl)⟩

theorem Inv.fresh (hi : Inv w0 φ g m w) {a : Addr} (h : w.heap.size ≤ a.block) : φ a = none := by
  cases e : φ a with
  | none => rfl
  | some v => have := hi.known_lt e; omega

/-- A new variable. -/
theorem Inv.push (hi : Inv w0 φ g m w) (cs : List V) (cvs : List Value) (t : TypeId) (hr : RepL φ g m cs cvs) (h1 : ∀ v ∈ cvs, v.oneCell' = true) :
    Goes w0 φ g m φ (.obj w.heap.size :: g) (.cells cs :: m) (w.alloc (.cells cvs.toArray t)) := by
  have hb := below_alloc w (.cells cvs.toArray t)
  have hi' := hi.grow (φ' := φ) hb (Ext.refl φ) (fun a v h => by rw [hb.cell (hi.known_lt h)]; exact hi.known a v h) (fun _ _ _ => rfl)
  refine hi'.cons _ _ (fun cs' e => ?_) (fun _ _ e => by cases e) (fun _ _ e => by cases e) (fun _ _ _ e => by cases e) (fun blk e => ?_) (fun b hb' r y hy e => ?_)
  · cases e
    exact ⟨w.heap.size, cvs, rfl, hi'.up hr, h1, fun i v hv => by rw [World.cell?_alloc_new]; simpa using hv, fun i => World.frozen?_alloc_new w _ t i⟩
  · cases e
    exact ⟨hi.size_le, by simp, fun a ha => hi.fresh (by omega)⟩
  · simp [GO.blk] at hb'
    have := (hi.blk_lt hy e).2
    omega

/-- A walk over a string begins. -/
theorem Inv.pushIter (hi : Inv w0 φ g m w) (s : List UInt8) (pos : Nat) :
    Goes w0 φ g m φ (.obj w.heap.size :: g) (.iter s pos :: m) (w.alloc (.stringIter ⟨s.toArray⟩ pos)) := by
  have hb := below_alloc w (.stringIter ⟨s.toArray⟩ pos)
  have hi' := hi.grow (φ' := φ) hb (Ext.refl φ) (fun a v h => by rw [hb.cell (hi.known_lt h)]; exact hi.known a v h) (fun _ _ _ => rfl)
  refine hi'.cons _ _ (fun cs' e => by cases e) (fun _ _ e => ?_) (fun _ _ e => by cases e) (fun _ _ _ e => by cases e) (fun blk e => ?_) (fun b hb' r y hy e => ?_)
  · cases e
    exact ⟨w.heap.size, rfl, by simp [World.alloc, -World.alloc_eq]⟩
  · cases e
    exact ⟨hi.size_le, by simp, fun a ha => hi.fresh (by omega)⟩
  · simp [GO.blk] at hb'
    have := (hi.blk_lt hy e).2
    omega

/-- A row that will grow. -/
theorem Inv.pushNil (hi : Inv w0 φ g m w) (sz : Nat) : Goes w0 φ g m φ (.row none 0 :: g) (.buf sz true [] :: m) w := by
  refine hi.cons _ _ (fun cs' e => by cases e) (fun _ _ e => by cases e) (fun _ _ e => by cases e) (fun sz' born xs e => ?_) (fun blk e => by cases e) (fun b hb' r y hy e => by simp [GO.blk] at hb')
  cases e
  exact ⟨none, 0, rfl, .inl ⟨rfl, rfl, rfl, rfl⟩⟩

/-- A row that grows, in a new block: its elements, and spare cells. -/
theorem Inv.pushRow (hi : Inv w0 φ g m w) (hb : Below w.heap.size w w') (born : Bool) (sz cap : Nat) (xs : List V) (evs : List Value) (hr : RepCL φ xs evs) (hf : ∀ x ∈ xs, x.fits sz = true)
    (hlt : w.heap.size < w'.heap.size) (hcap : xs.length ≤ cap) (hborn : ¬ (born = true ∧ xs = []))
    (hcell : ∀ j v, (flat evs)[j]? = some v → w'.cell? ⟨w.heap.size, j, none⟩ = some v)
    (hspare : ∀ j, xs.length * sz ≤ j → (j < cap * sz → (w'.cell? ⟨w.heap.size, j, none⟩).isSome = true) ∧ w'.frozen? ⟨w.heap.size, j, none⟩ = false) (hfz : ∀ j, w'.frozen? ⟨w.heap.size, j, none⟩ = false) :
    ∃ φ', Goes w0 φ g m φ' (.row (some ⟨w.heap.size, 0, none⟩) cap :: g) (.buf sz born xs :: m) w' ∧ Els φ' ⟨w.heap.size, 0, none⟩ sz xs := by
  let K : Addr → Bool := fun a => a.block == w.heap.size && a.spot.isNone && decide (a.off < xs.length * sz)
  have hg := hi.knowGoes hb K
  have hels : Els (Vm.know φ w w' K) ⟨w.heap.size, 0, none⟩ sz xs := by
    refine ⟨evs, RepCL.ext hg.ext _ _ hr, hf, fun j v hv => ?_⟩
    have hj : j < xs.length * sz := by
      have := (List.getElem?_eq_some_iff.1 hv).1
      rw [flat_length hr hf] at this; exact this
    have e : (⟨w.heap.size, 0, none⟩ : Addr).add j = ⟨w.heap.size, j, none⟩ := by
      unfold Addr.add; split
      · rename_i h; subst h; rfl
      · simp
    rw [e, know_new (by simp) (by simp [K, hj])]
    exact hcell j v hv
  refine ⟨_, hg.trans (hg.inv.cons _ _ (fun cs' e => by cases e) (fun _ _ e => by cases e) (fun _ _ e => by cases e) (fun sz' born' xs' e => ?_) (fun blk e => by cases e) (fun b hb' r y hy e => ?_)) (Nat.le_refl _), hels⟩
  · cases e
    refine ⟨_, _, rfl, .inr ⟨hborn, w.heap.size, rfl, hi.size_le, hlt, hcap, hels, fun j hj => ⟨(hspare j hj).1, (hspare j hj).2, ?_⟩, hfz⟩⟩
    have : ¬ (j < xs.length * sz) := by omega
    simp [Vm.know, K, this]
  · simp [GO.blk] at hb'
    have := (hi.blk_lt hy e).2
    omega
end
end Go.Vm
