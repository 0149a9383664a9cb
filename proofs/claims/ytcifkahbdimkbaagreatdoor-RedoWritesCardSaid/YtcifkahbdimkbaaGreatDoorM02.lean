/- Part 2 of the ground under the rows: Stores into variables, growth of rows, steps of a walk over a string. -/
import Derived.Test.YtcifkahbdimkbaaGreatDoorM01
import Derived.Deep.AppendSrc
import Derived.Deep.Upon
import Derived.Deep.MidRow
set_option linter.unusedSimpArgs false
set_option linter.unusedVariables false
-- VmJ: Stores into variables, growth of rows, steps of a walk over a string.
namespace Go.Vm
open Go Go.RowKit

theorem setCells_size (b : Nat) : ∀ (vs : List Value) (o : Nat) (w : World), (w.setCells b o vs).heap.size = w.heap.size
  | [], _, _ => rfl
  | v :: r, o, w => by rw [World.setCells, setCells_size b r]; simp
theorem setCells_os (b : Nat) : ∀ (vs : List Value) (o : Nat) (w : World), (w.setCells b o vs).os = w.os
  | [], _, _ => rfl
  | v :: r, o, w => by rw [World.setCells, setCells_os b r]; rfl
theorem setCells_tape (b : Nat) : ∀ (vs : List Value) (o : Nat) (w : World), (w.setCells b o vs).tape = w.tape
  | [], _, _ => rfl
  | v :: r, o, w => by rw [World.setCells, setCells_tape b r]; rfl
theorem setCells_output (b : Nat) : ∀ (vs : List Value) (o : Nat) (w : World), (w.setCells b o vs).output = w.output
  | [], _, _ => rfl
  | v :: r, o, w => by rw [World.setCells, setCells_output b r]; rfl
theorem setCells_block (b : Nat) : ∀ (vs : List Value) (o : Nat) (w : World) (k : Nat), k ≠ b → (w.setCells b o vs).heap[k]? = w.heap[k]?
  | [], _, _, _, _ => rfl
  | v :: r, o, w, k, h => by rw [World.setCells, setCells_block b r _ _ k h]; exact Below.heap_setCell w _ v k h

theorem below_setCells {B : Nat} {a w : World} (h : Below B a w) {b : Nat} (hb : B ≤ b) (o : Nat) (vs : List Value) : Below B a (w.setCells b o vs) :=
  h.trans ⟨setCells_os b vs o w, setCells_tape b vs o w, setCells_output b vs o w, by rw [setCells_size]; exact Nat.le_refl _, fun k hk => setCells_block b vs o w k (by omega)⟩

section
variable {w0 : World} {φ φ' : Phi} {g : List GO} {m : Mem} {w w' : World}

theorem Le.updCells (hi : Inv w0 φ g m w) {r : Nat} {cs : List V} (h : look m r = some (.cells cs)) (cs' : List V) : Le m.length g m g (upd m r (.cells cs')) := by
  refine ⟨fun _ _ _ e => e, fun k hk sz born xs hx ra rc hg => ⟨[], ra, rc, ?_, hg, fun _ => ⟨rfl, rfl⟩⟩⟩
  have : k ≠ r := fun e => by subst e; rw [h] at hx; cases hx
  rw [look_upd_ne this]; simpa using hx

/-- A store into a variable. -/
theorem Inv.store (hi : Inv w0 φ g m w) {r blk : Nat} {cs : List V} (h : look m r = some (.cells cs)) (hg : look g r = some (.obj blk)) (o : Nat) (new : List V) (cnew : List Value)
    (hn : RepL φ g m new cnew) (h1 : ∀ v ∈ cnew, v.oneCell' = true) (ho : o + new.length ≤ cs.length) :
    (∀ j, j < cnew.length → (w.cell? ⟨blk, o + j, none⟩).isSome = true ∧ w.frozen? ⟨blk, o + j, none⟩ = false) ∧
    Goes w0 φ g m φ g (upd m r (.cells (cs.take o ++ new ++ cs.drop (o + new.length)))) (w.setCells blk o cnew) := by
  obtain ⟨blk', cvs, k1, k2, k3, k4, k5⟩ := hi.cells r cs h
  rw [hg] at k1; cases k1
  have hl := k2.length
  have hln := hn.length
  have there : ∀ j, j < cnew.length → (w.cell? ⟨blk, o + j, none⟩).isSome = true := fun j hj => by
    have : o + j < cvs.length := by omega
    rw [k4 (o + j) cvs[o + j] (by simp [this])]; rfl
  refine ⟨fun j hj => ⟨there j hj, k5 _⟩, ?_⟩
  have hrlt := look_lt h
  have hle : Le m.length g m g (upd m r (.cells (cs.take o ++ new ++ cs.drop (o + new.length)))) := Le.updCells hi h _
  have up : ∀ {l : List V} {c : List Value}, RepL φ g m l c → RepL φ g (upd m r (.cells (cs.take o ++ new ++ cs.drop (o + new.length)))) l c := fun hh =>
    RepL.mono (Ext.refl φ) hle _ _ (by rw [← hi.len]; exact RepL.under _ _ hh) hh
  have hblk := (hi.own r blk hg)
  have out : ∀ x : Addr, x.block ≠ blk → (w.setCells blk o cnew).cell? x = w.cell? x := fun x hx => World.cell?_setCells_out blk cnew o w x (fun e => absurd e hx)
  refine ⟨⟨by simp [hi.len], below_setCells hi.base hblk.1 o cnew, ?_, ?_, ?_, ?_, ?_, ?_, hi.apart⟩, Ext.refl φ, hle⟩
  · intro a v ha
    rw [out a (fun e => by rw [hblk.2.2 a e] at ha; cases ha)]
    exact hi.known a v ha
  · intro q cs' hq
    by_cases e : q = r
    · subst e
      rw [look_upd_self hrlt] at hq
      cases hq
      refine ⟨blk, cvs.take o ++ cnew ++ cvs.drop (o + new.length), hg, up (((k2.take o).append hn).append (k2.drop _)), ?_, ?_, fun i => by rw [World.frozen?_setCells]; exact k5 i⟩
      · intro v hv
        rw [List.mem_append, List.mem_append] at hv
        rcases hv with (hv | hv) | hv
        · exact k3 v (List.mem_of_mem_take hv)
        · exact h1 v hv
        · exact k3 v (List.mem_of_mem_drop hv)
      · intro i v hv
        by_cases hi1 : i < o
        · rw [List.append_assoc, List.getElem?_append_left (by simp; omega)] at hv
          rw [List.getElem?_take, if_pos hi1] at hv
          rw [World.cell?_setCells_out blk cnew o w _ (fun _ _ => Or.inl hi1)]
          exact k4 i v hv
        · by_cases hi2 : i < o + cnew.length
          · rw [List.getElem?_append_left (by simp; omega), List.getElem?_append_right (by simp; omega)] at hv
            have e1 : (cvs.take o).length = o := by simp; omega
            rw [e1] at hv
            have := World.cell?_setCells_in blk cnew o w there (i - o) (by omega)
            rw [show o + (i - o) = i by omega] at this
            rw [this]
            rw [List.getElem?_eq_getElem (by omega)] at hv
            exact hv
          · rw [List.getElem?_append_right (by simp; omega)] at hv
            rw [World.cell?_setCells_out blk cnew o w _ (fun _ _ => Or.inr (by simp; omega))]
            refine k4 i v ?_
            rw [List.getElem?_drop] at hv
            rw [← hv]
            congr 1
            simp; omega
    · rw [look_upd_ne e] at hq
      obtain ⟨b, cv, q1, q2, q3, q4, q5⟩ := hi.cells q cs' hq
      have hne : b ≠ blk := fun eb => e (hi.apart q r _ _ b q1 hg rfl (by simp [GO.blk, eb]))
      exact ⟨b, cv, q1, up q2, q3, fun i v hv => by rw [out _ hne]; exact q4 i v hv, fun i => by rw [World.frozen?_setCells]; exact q5 i⟩
  · intro q s pos hq
    by_cases e : q = r
    · subst e; rw [look_upd_self hrlt] at hq; cases hq
    · rw [look_upd_ne e] at hq
      obtain ⟨b, q1, q2⟩ := hi.iters q s pos hq
      have hne : b ≠ blk := fun eb => e (hi.apart q r _ _ b q1 hg rfl (by simp [GO.blk, eb]))
      exact ⟨b, q1, by rw [setCells_block blk cnew o w b hne]; exact q2⟩
  · intro q ks vs hq
    by_cases e : q = r
    · subst e; rw [look_upd_self hrlt] at hq; cases hq
    · rw [look_upd_ne e] at hq; exact hi.maps q ks vs hq
  · intro k sz born xs hq
    by_cases e : k = r
    · subst e; rw [look_upd_self hrlt] at hq; cases hq
    · rw [look_upd_ne e] at hq
      obtain ⟨ra, rc, q1, q2⟩ := hi.rows k sz born xs hq
      refine ⟨ra, rc, q1, ?_⟩
      rcases q2 with q2 | ⟨q2, b, q3, q4, q5, q6, q7, q8, q9⟩
      · exact .inl q2
      · have hne : b ≠ blk := fun eb => e (hi.apart k r _ _ b q1 hg (by rw [q3]; rfl) (by simp [GO.blk, eb]))
        refine .inr ⟨q2, b, q3, q4, by rw [setCells_size]; exact q5, q6, q7, fun j hj => ?_, fun j => by rw [World.frozen?_setCells]; exact q9 j⟩
        rw [out _ hne, World.frozen?_setCells]
        exact q8 j hj
  · intro q b hq
    rw [setCells_size]; exact hi.own q b hq

/-- A step of a walk over a string. -/
theorem Inv.next (hi : Inv w0 φ g m w) {r blk : Nat} {s : List UInt8} {pos : Nat} (h : look m r = some (.iter s pos)) (hg : look g r = some (.obj blk)) (pos' : Nat) :
    Goes w0 φ g m φ g (upd m r (.iter s pos')) { w with heap := w.heap.setIfInBounds blk (.stringIter ⟨s.toArray⟩ pos') } := by
  obtain ⟨blk', k1, k2⟩ := hi.iters r s pos h
  rw [hg] at k1; cases k1
  have hrlt := look_lt h
  have hblk := hi.own r blk hg
  have hle : Le m.length g m g (upd m r (.iter s pos')) := by
    refine ⟨fun _ _ _ e => e, fun k hk sz born xs hx ra rc hg => ⟨[], ra, rc, ?_, hg, fun _ => ⟨rfl, rfl⟩⟩⟩
    have : k ≠ r := fun e => by subst e; rw [h] at hx; cases hx
    rw [look_upd_ne this]; simpa using hx
  have up : ∀ {l : List V} {c : List Value}, RepL φ g m l c → RepL φ g (upd m r (.iter s pos')) l c := fun hh =>
    RepL.mono (Ext.refl φ) hle _ _ (by rw [← hi.len]; exact RepL.under _ _ hh) hh
  have hb : ∀ b, b ≠ blk → ({ w with heap := w.heap.setIfInBounds blk (.stringIter ⟨s.toArray⟩ pos') } : World).heap[b]? = w.heap[b]? := fun b hne => by
    simp [Array.getElem?_setIfInBounds, Ne.symm hne]
  have cell : ∀ x : Addr, x.block ≠ blk → ({ w with heap := w.heap.setIfInBounds blk (.stringIter ⟨s.toArray⟩ pos') } : World).cell? x = w.cell? x := fun x hx => World.cell?_of_block (w := w) (hb _ hx)
  have froz : ∀ x : Addr, x.block ≠ blk → ({ w with heap := w.heap.setIfInBounds blk (.stringIter ⟨s.toArray⟩ pos') } : World).frozen? x = w.frozen? x := fun x hx => World.frozen?_of_block (w := w) (hb _ hx)
  refine ⟨⟨by simp [hi.len], hi.base.trans ⟨rfl, rfl, rfl, by simp, fun k hk => hb k (by have := hblk.1; omega)⟩, ?_, ?_, ?_, ?_, ?_, ?_, hi.apart⟩, Ext.refl φ, hle⟩
  · intro a v ha
    rw [cell a (fun e => by rw [hblk.2.2 a e] at ha; cases ha)]
    exact hi.known a v ha
  · intro q cs' hq
    by_cases e : q = r
    · subst e; rw [look_upd_self hrlt] at hq; cases hq
    · rw [look_upd_ne e] at hq
      obtain ⟨b, cv, q1, q2, q3, q4, q5⟩ := hi.cells q cs' hq
      have hne : b ≠ blk := fun eb => e (hi.apart q r _ _ b q1 hg rfl (by simp [GO.blk, eb]))
      exact ⟨b, cv, q1, up q2, q3, fun i v hv => by rw [cell _ hne]; exact q4 i v hv, fun i => by rw [froz _ hne]; exact q5 i⟩
  · intro q s' p' hq
    by_cases e : q = r
    · subst e; rw [look_upd_self hrlt] at hq; cases hq
      refine ⟨blk, hg, ?_⟩
      have := hblk.2.1
      simp [Array.getElem?_setIfInBounds, this]
    · rw [look_upd_ne e] at hq
      obtain ⟨b, q1, q2⟩ := hi.iters q s' p' hq
      have hne : b ≠ blk := fun eb => e (hi.apart q r _ _ b q1 hg rfl (by simp [GO.blk, eb]))
      exact ⟨b, q1, by rw [hb b hne]; exact q2⟩
  · intro q ks vs hq
    by_cases e : q = r
    · subst e; rw [look_upd_self hrlt] at hq; cases hq
    · rw [look_upd_ne e] at hq; exact hi.maps q ks vs hq
  · intro k sz born xs hq
    by_cases e : k = r
    · subst e; rw [look_upd_self hrlt] at hq; cases hq
    · rw [look_upd_ne e] at hq
      obtain ⟨ra, rc, q1, q2⟩ := hi.rows k sz born xs hq
      refine ⟨ra, rc, q1, ?_⟩
      rcases q2 with q2 | ⟨q2, b, q3, q4, q5, q6, q7, q8, q9⟩
      · exact .inl q2
      · have hne : b ≠ blk := fun eb => e (hi.apart k r _ _ b q1 hg (by rw [q3]; rfl) (by simp [GO.blk, eb]))
        refine .inr ⟨q2, b, q3, q4, by simpa using q5, q6, q7, fun j hj => ?_, fun j => by rw [froz _ hne]; exact q9 j⟩
        rw [cell _ hne, froz _ hne]
        exact q8 j hj
  · intro q b hq
    simpa using hi.own q b hq

/-- A row that grows in its place. -/
theorem Inv.growIn (hi : Inv w0 φ g m w) {k sz blk rcap : Nat} {born : Bool} {xs : List V} (h : look m k = some (.buf sz born xs)) (hg : look g k = some (.row (some ⟨blk, 0, none⟩) rcap))
    (ys : List V) (evs : List Value) (hr : RepCL φ ys evs) (hf : ∀ y ∈ ys, y.fits sz = true) (hroom : xs.length + ys.length ≤ rcap) :
    (∀ j, j < (flat evs).length → (w.cell? ⟨blk, xs.length * sz + j, none⟩).isSome = true ∧ w.frozen? ⟨blk, xs.length * sz + j, none⟩ = false) ∧
    ∃ φ', Goes w0 φ g m φ' g (upd m k (.buf sz born (xs ++ ys))) (w.setCells blk (xs.length * sz) (flat evs)) ∧ Els φ' ⟨blk, 0, none⟩ sz (xs ++ ys) := by
  obtain ⟨ra, rc, k1, k2⟩ := hi.rows k sz born xs h
  rw [hg] at k1; cases k1
  rcases k2 with ⟨k2, _⟩ | ⟨k0, b, k2, k3, k4, k5, k6, k7, k8⟩
  · cases k2
  cases k2
  have hfl := flat_length hr hf
  have hroom' : xs.length * sz + (flat evs).length ≤ rcap * sz := by rw [hfl, ← Nat.add_mul]; exact Nat.mul_le_mul_right _ hroom
  have there : ∀ j, j < (flat evs).length → (w.cell? ⟨blk, xs.length * sz + j, none⟩).isSome = true := fun j hj => (k7 _ (by omega)).1 (by omega)
  refine ⟨fun j hj => ⟨there j hj, (k7 _ (by omega)).2.1⟩, ?_⟩
  have hklt := look_lt h
  let W := w.setCells blk (xs.length * sz) (flat evs)
  let φ2 : Phi := fun a => if a.block = blk ∧ a.spot = none ∧ xs.length * sz ≤ a.off ∧ a.off < (xs ++ ys).length * sz then W.cell? a else φ a
  have hmul : (xs ++ ys).length * sz = xs.length * sz + (flat evs).length := by rw [hfl, List.length_append, Nat.add_mul]
  have old : ∀ a v, φ a = some v → ¬ (a.block = blk ∧ a.spot = none ∧ xs.length * sz ≤ a.off) := fun a v ha hc => by
    obtain ⟨e1, e2, e3⟩ := hc
    have := (k7 a.off e3).2.2
    have ea : a = ⟨blk, a.off, none⟩ := by cases a; simp_all
    rw [← ea, ha] at this; cases this
  have hext : Ext φ φ2 := fun a v ha => by
    have := old a v ha
    simp only [φ2]
    rw [if_neg (fun hc => this ⟨hc.1, hc.2.1, hc.2.2.1⟩)]
    exact ha
  have out : ∀ x : Addr, ¬ (x.block = blk ∧ x.spot = none ∧ xs.length * sz ≤ x.off ∧ x.off < xs.length * sz + (flat evs).length) → W.cell? x = w.cell? x := fun x hx =>
    World.cell?_setCells_out blk (flat evs) _ w x (fun e1 e2 => by
      rcases Nat.lt_or_ge x.off (xs.length * sz) with h' | h'
      · exact .inl h'
      · refine .inr ?_
        rcases Nat.lt_or_ge x.off (xs.length * sz + (flat evs).length) with h'' | h''
        · exact absurd ⟨e1, e2, h', h''⟩ hx
        · exact h'')
  have hle : Le m.length g m g (upd m k (.buf sz born (xs ++ ys))) := by
    refine ⟨fun _ _ _ e => e, fun q hq sz' born' xs' hx ra rc hg' => ?_⟩
    by_cases e : q = k
    · subst e
      rw [h] at hx; cases hx
      exact ⟨ys, ra, rc, look_upd_self hklt, hg', fun _ => ⟨rfl, rfl⟩⟩
    · exact ⟨[], ra, rc, by rw [look_upd_ne e]; simpa using hx, hg', fun _ => ⟨rfl, rfl⟩⟩
  have up : ∀ {l : List V} {c : List Value}, RepL φ g m l c → RepL φ2 g (upd m k (.buf sz born (xs ++ ys))) l c := fun hh =>
    RepL.mono hext hle _ _ (by rw [← hi.len]; exact RepL.under _ _ hh) hh
  have hels : Els φ2 ⟨blk, 0, none⟩ sz (xs ++ ys) := by
    obtain ⟨exs, x1, x2, x3⟩ := k6
    refine ⟨exs ++ evs, (RepCL.ext hext _ _ x1).append (RepCL.ext hext _ _ hr), fun x hx => (List.mem_append.1 hx).elim (x2 x) (hf x), fun j v hv => ?_⟩
    rw [flat_append] at hv
    have hxl := flat_length x1 x2
    by_cases hj : j < (flat exs).length
    · rw [List.getElem?_append_left hj] at hv
      exact hext _ _ (x3 j v hv)
    · rw [List.getElem?_append_right (by omega)] at hv
      have hj2 := (List.getElem?_eq_some_iff.1 hv).1
      have ea : (⟨blk, 0, none⟩ : Addr).add j = ⟨blk, j, none⟩ := by
        unfold Addr.add; split
        · rename_i e; subst e; rfl
        · simp
      have e2 : φ2 ⟨blk, j, none⟩ = W.cell? ⟨blk, j, none⟩ := if_pos ⟨rfl, rfl, by show _ ≤ j; omega, by show j < _; rw [hmul]; omega⟩
      rw [ea, e2]
      rw [hxl] at hj2 hv
      have := World.cell?_setCells_in blk (flat evs) (xs.length * sz) w there (j - xs.length * sz) hj2
      rw [show xs.length * sz + (j - xs.length * sz) = j by omega] at this
      rw [List.getElem?_eq_getElem hj2] at hv
      rw [← hv]; exact this
  refine ⟨φ2, ⟨⟨by simp [hi.len], below_setCells hi.base k3 _ _, ?_, ?_, ?_, ?_, ?_, ?_, hi.apart⟩, hext, hle⟩, hels⟩
  · intro a v ha
    simp only [φ2] at ha
    split at ha
    · exact ha
    · rw [out a (fun hc => old a v ha ⟨hc.1, hc.2.1, hc.2.2.1⟩)]
      exact hi.known a v ha
  · intro q cs' hq
    by_cases e : q = k
    · subst e; rw [look_upd_self hklt] at hq; cases hq
    · rw [look_upd_ne e] at hq
      obtain ⟨b, cv, q1, q2, q3, q4, q5⟩ := hi.cells q cs' hq
      have hne : b ≠ blk := fun eb => e (hi.apart q k _ _ b q1 hg rfl (by simp [GO.blk, eb]))
      exact ⟨b, cv, q1, up q2, q3, fun i v hv => by rw [out _ (fun hc => hne hc.1)]; exact q4 i v hv, fun i => by rw [World.frozen?_setCells]; exact q5 i⟩
  · intro q s pos hq
    by_cases e : q = k
    · subst e; rw [look_upd_self hklt] at hq; cases hq
    · rw [look_upd_ne e] at hq
      obtain ⟨b, q1, q2⟩ := hi.iters q s pos hq
      have hne : b ≠ blk := fun eb => e (hi.apart q k _ _ b q1 hg rfl (by simp [GO.blk, eb]))
      exact ⟨b, q1, by rw [setCells_block blk _ _ w b hne]; exact q2⟩
  · intro q ks vs hq
    by_cases e : q = k
    · subst e; rw [look_upd_self hklt] at hq; cases hq
    · rw [look_upd_ne e] at hq; exact hi.maps q ks vs hq
  · intro q sz' born' xs' hq
    by_cases e : q = k
    · subst e
      rw [look_upd_self hklt] at hq; cases hq
      refine ⟨_, rcap, hg, .inr ⟨fun hc => k0 ⟨hc.1, (List.append_eq_nil_iff.1 hc.2).1⟩, blk, rfl, k3, by rw [setCells_size]; exact k4, by simpa using hroom, hels, fun j hj => ?_, fun j => by rw [World.frozen?_setCells]; exact k8 j⟩⟩
      rw [hmul] at hj
      have hj' := k7 j (by omega)
      have eφ : φ2 ⟨blk, j, none⟩ = φ ⟨blk, j, none⟩ := by
        simp only [φ2]
        rw [if_neg (fun hc => by have h4 : j < (xs ++ ys).length * sz := hc.2.2.2; rw [hmul] at h4; omega)]
      rw [out _ (fun hc => by have h4 : j < xs.length * sz + (flat evs).length := hc.2.2.2; omega), World.frozen?_setCells, eφ]
      exact hj'
    · rw [look_upd_ne e] at hq
      obtain ⟨ra, rc', q1, q2⟩ := hi.rows q sz' born' xs' hq
      refine ⟨ra, rc', q1, ?_⟩
      rcases q2 with q2 | ⟨q2, b, q3, q4, q5, q6, q7, q8, q9⟩
      · exact .inl q2
      · have hne : b ≠ blk := fun eb => e (hi.apart q k _ _ b q1 hg (by rw [q3]; rfl) (by simp [GO.blk, eb]))
        refine .inr ⟨q2, b, q3, q4, by rw [setCells_size]; exact q5, q6, q7.ext hext, fun j hj => ?_, fun j => by rw [World.frozen?_setCells]; exact q9 j⟩
        have eφ : φ2 ⟨b, j, none⟩ = φ ⟨b, j, none⟩ := by
          simp only [φ2]
          rw [if_neg (fun hc => hne hc.1)]
        rw [out _ (fun hc => hne hc.1), World.frozen?_setCells, eφ]
        exact q8 j hj
  · intro q b hq
    rw [setCells_size]
    obtain ⟨q1, q2, q3⟩ := hi.own q b hq
    have hne : q ≠ k := fun e => by subst e; rw [hg] at hq; cases hq
    have hbn : b ≠ blk := fun eb => hne (hi.apart q k _ _ b hq hg rfl (by simp [GO.blk, eb]))
    refine ⟨q1, q2, fun a ha => ?_⟩
    simp only [φ2]
    rw [if_neg (fun hc => hbn (by rw [← ha]; exact hc.1))]
    exact q3 a ha
end
end Go.Vm
