/- Part 18 of the ground under the rows: The library's functions, by their laid contracts, are what the pure machine takes for them. -/
import Derived.Test.YtcifkahbdimkbaaGreatDoorM17
import Derived.ChangeAgain
import Derived.WalkSmall
set_option linter.unusedSimpArgs false
set_option linter.unusedVariables false
-- RM2: The library's functions, by their laid contracts, are what the pure machine takes for them.
set_option maxRecDepth 100000
namespace Go.Vm
open Go Go.RowKit

/-- A library function that builds new things alone. -/
theorem prim_ok {P : Program} {w0 : World} {A : Ann} {f : FuncId} {p : List V → Mem → Option Out} (hE : Entered P f)
    (h : ∀ args m out, p args m = some out → ∃ v, out = .ret [v] m ∧ ∀ φ g w (cargs : List Value), Inv w0 φ g m w → Globs A φ → RepL φ g m args cargs →
      Calls P f cargs.toArray w fun e w' => Below w.heap.size w w' ∧ ∃ cv, e = .returned cv ∧ Rep (know φ w w' fun _ => true) g m v cv) :
    CFok P w0 A (fun f' => if f' = f then p else fun _ _ => none) ∧ CFpure (fun f' => if f' = f then p else fun _ _ => none) := by
  constructor
  · intro f' args m out ho
    dsimp only at ho
    split at ho
    · rename_i e; subst e
      obtain ⟨v, rfl, hv⟩ := h args m out ho
      refine ⟨hE, fun φ g w cargs hi hg hr => (hv φ g w cargs hi hg hr).mono fun e w' hq => ?_⟩
      obtain ⟨hb, cv, rfl, hrep⟩ := hq
      exact ⟨cv, _, g, rfl, hi.knowGoes hb _, hrep⟩
    · cases ho
  · intro f' args m out ho
    dsimp only at ho
    split at ho
    · rename_i e; subst e
      obtain ⟨v, rfl, hv⟩ := h args m out ho
      exact ⟨Nat.le_refl _, fun B _ hc => hc⟩
    · cases ho

theorem tab_at {P : Program} {w0 w : World} {φ : Phi} {g : List GO} {m : Mem} (hi : Inv w0 φ g m w) {n : String} {k : IntKind} {zs : List Int} {gl : Nat} (hg : P.globalNamed n = some gl) (h : Lib.TabIs P w0 n k zs) : Lib.TabIs P w n k zs := by
  unfold Lib.TabIs at h ⊢
  have hlt : gl < w0.heap.size := by
    unfold World.var? at h
    simp only [hg, Option.bind_some] at h
    rcases Nat.lt_or_ge gl w0.heap.size with h' | h'
    · exact h'
    · simp [Array.getElem?_eq_none h'] at h
  exact var?_below hi.base hg hlt h
theorem shaped_at {P : Program} {w0 w : World} {φ : Phi} {g : List GO} {m : Mem} (hi : Inv w0 φ g m w) (h : w0.ShapedOpen P) : w.ShapedOpen P :=
  World.ShapedOpen.keptBut (may := fun _ => False) h (hi.base.frame _) (fun _ h => h.elim)
theorem below_grow {B : Nat} {a w : World} (h : Below B a w) (hB : B ≤ w.heap.size) (os : Array Obj) : Below B a (Sort.grow w os) :=
  h.trans ⟨rfl, rfl, rfl, by simp [Sort.grow], fun k hk => by simp only [Sort.grow]; rw [Array.getElem?_append_left (by omega)]⟩
end Go.Vm

namespace Go.Vm.Redo
open Go Go.Vm Go.Proofs Go.RowKit

theorem ent_itoa : Entered Tryz.prog F.strconv_Itoa := ⟨_, Tryz.func74, by kernel_rfl, by kernel_rfl⟩
theorem ent_fields : Entered Tryz.prog F.strings_Fields := ⟨_, Tryz.func48, by kernel_rfl, by kernel_rfl⟩
theorem ent_replace : Entered Tryz.prog F.strings_ReplaceAll := ⟨_, Tryz.func94, by kernel_rfl, by kernel_rfl⟩
theorem ent_join : Entered Tryz.prog F.strings_Join := ⟨_, Tryz.func77, by kernel_rfl, by kernel_rfl⟩

/-- What the world holds at the start of the row. -/
structure Laid (w : World) : Prop where
  pow : Lib.TabIs Tryz.prog w "internal/strconv.uint64pow10" .u64 Lib.pow10Tab
  sp : Lib.TabIs Tryz.prog w "strings.asciiSpace" .u8 Lib.asciiSpaceTab
  shaped : w.ShapedOpen Tryz.prog

theorem repL1 {φ : Phi} {g : List GO} {m : Mem} {x : V} {l : List Value} (h : RepL φ g m [x] l) : ∃ c, l = [c] ∧ Rep φ g m x c := by
  obtain ⟨c, cs, rfl, h1, h2⟩ := h
  obtain rfl : cs = [] := h2
  exact ⟨c, rfl, h1⟩

theorem ok_itoa {w0 : World} {A : Ann} (hL : Laid w0) : CFok Tryz.prog w0 A (fun f' => if f' = F.strconv_Itoa then pItoa else fun _ _ => none) ∧ CFpure (fun f' => if f' = F.strconv_Itoa then pItoa else fun _ _ => none) := by
  refine prim_ok ent_itoa fun args m out ho => ?_
  unfold pItoa at ho
  split at ho
  · rename_i n
    split at ho
    · rename_i hn
      cases ho
      refine ⟨_, rfl, fun φ g w cargs hi hg hr => ?_⟩
      obtain ⟨c, rfl, hc⟩ := repL1 hr
      obtain rfl : c = .int .i64 n := hc
      refine (Tryz.strconv_Itoa n hn.1 hn.2 w (tab_at hi (gl := 3) (by kernel_rfl) hL.pow)).mono fun e w' hq => ?_
      obtain ⟨rfl, k, os, rfl⟩ := hq
      exact ⟨below_grow (below_drewN (Below.refl _ _) k) (Nat.le_refl _) os, _, rfl, rfl⟩
    · cases ho
  · cases ho

theorem ok_replace {w0 : World} {A : Ann} (hL : Laid w0) : CFok Tryz.prog w0 A (fun f' => if f' = F.strings_ReplaceAll then pReplaceAll else fun _ _ => none) ∧ CFpure (fun f' => if f' = F.strings_ReplaceAll then pReplaceAll else fun _ _ => none) := by
  refine prim_ok ent_replace fun args m out ho => ?_
  unfold pReplaceAll at ho
  split at ho
  · rename_i s old new
    split at ho
    · rename_i hn
      obtain ⟨h1, h2, h3, h4⟩ := hn
      cases ho
      refine ⟨_, rfl, fun φ g w cargs hi hg hr => ?_⟩
      obtain ⟨c1, cs, rfl, hc1, c2, cs2, rfl, hc2, c3, cs3, rfl, hc3, hcs⟩ := hr
      obtain rfl : cs3 = [] := hcs
      obtain rfl : c1 = .string ⟨s.toArray⟩ := hc1
      obtain rfl : c2 = .string ⟨old.toArray⟩ := hc2
      obtain rfl : c3 = .string ⟨new.toArray⟩ := hc3
      have hcnt := Lib.countB_le ⟨old.toArray⟩ (by simpa [ByteArray.size] using h2) s.length ⟨s.toArray⟩ (by simp [ByteArray.size])
      have hsz : (⟨s.toArray⟩ : ByteArray).size = s.length := by simp [ByteArray.size]
      have hnz : (⟨new.toArray⟩ : ByteArray).size = new.length := by simp [ByteArray.size]
      rw [hsz] at hcnt
      have hmul : Lib.countB ⟨s.toArray⟩ ⟨old.toArray⟩ * new.length ≤ 1000000 * 1000 := Nat.mul_le_mul (by omega) (by omega)
      refine (Tryz.strings_ReplaceAll_shaped ⟨s.toArray⟩ ⟨old.toArray⟩ ⟨new.toArray⟩ w (shaped_at hi hL.shaped) (by omega) (by simpa [ByteArray.size] using h2) (by rw [hsz, hnz]; omega)).mono fun e w' hq => ?_
      obtain ⟨rfl, hb⟩ := hq
      exact ⟨hb, _, rfl, rfl⟩
    · cases ho
  · cases ho
theorem strs_rep (φ : Phi) : ∀ (l : List (List UInt8)), RepCL φ (l.map .str) (l.map fun s => Value.string ⟨s.toArray⟩)
  | [] => RepCL.nil
  | b :: l => RepCL.cons rfl (strs_rep φ l)
theorem flat_strs : ∀ (l : List (List UInt8)), flat (l.map fun s => Value.string ⟨s.toArray⟩) = l.map fun s => Value.string ⟨s.toArray⟩
  | [] => rfl
  | b :: l => by have := flat_strs l; simp only [flat, List.map_cons, List.flatMap_cons] at this ⊢; rw [this]; rfl

theorem ok_fields {w0 : World} {A : Ann} (hL : Laid w0) : CFok Tryz.prog w0 A (fun f' => if f' = F.strings_Fields then pFields else fun _ _ => none) ∧ CFpure (fun f' => if f' = F.strings_Fields then pFields else fun _ _ => none) := by
  refine prim_ok ent_fields fun args m out ho => ?_
  unfold pFields at ho
  split at ho
  · rename_i s
    split at ho
    · rename_i hn
      obtain ⟨h1, h2⟩ := hn
      cases ho
      refine ⟨_, rfl, fun φ g w cargs hi hg hr => ?_⟩
      obtain ⟨c, rfl, hc⟩ := repL1 hr
      obtain rfl : c = .string ⟨s.toArray⟩ := hc
      refine (Tryz.strings_Fields_laid ⟨s.toArray⟩ w (by simp [ByteArray.size]; omega) (fun j b hj => ?_) (tab_at hi (gl := 0) (by kernel_rfl) hL.sp)).mono fun e w' hq => ?_
      · have := List.mem_of_getElem? hj
        simp only at this
        have := List.all_eq_true.1 h2 b this
        simpa using this
      · obtain ⟨rfl, rfl⟩ := hq
        refine ⟨below_alloc _ _, _, rfl, ?_⟩
        have hlen : ((Lib.fields s).map V.str).length = (Lib.fields s).length := by simp
        have := sl_rep (φ := know φ w (w.alloc (.cells ((Lib.fields s).map fun l => Value.string ⟨l.toArray⟩).toArray 9)) fun _ => true) (g := g) (m := m) (sz := 1) (xs := (Lib.fields s).map V.str) (a := ⟨w.heap.size, 0, none⟩) (cap := (Lib.fields s).length) (by omega) ?_
        · rw [hlen] at this; exact this
        · refine ⟨_, strs_rep _ _, fun x hx => ?_, fun j u hj => ?_⟩
          · obtain ⟨y, _, rfl⟩ := List.mem_map.1 hx; rfl
          · rw [flat_strs] at hj
            rw [add_mk, Nat.zero_add, know_new (by simp) rfl]
            rw [World.cell?_alloc_new]
            simpa using hj
    · cases ho
  · cases ho

theorem cells_str {φ : Phi} {w0 w : World} {g : List GO} {m : Mem} (hi : Inv w0 φ g m w) : ∀ (l : List (List UInt8)) (evs : List Value), RepCL φ (l.map .str) evs → evs = l.map fun s => Value.string ⟨s.toArray⟩
  | [], evs, h => h
  | s :: l, evs, h => by
    obtain ⟨c, cs, rfl, h1, h2⟩ := h
    rw [cells_str hi l cs h2]
    obtain rfl : c = .string ⟨s.toArray⟩ := h1
    rfl

theorem ok_join {w0 : World} {A : Ann} : CFok Tryz.prog w0 A (fun f' => if f' = F.strings_Join then pJoin else fun _ _ => none) ∧ CFpure (fun f' => if f' = F.strings_Join then pJoin else fun _ _ => none) := by
  refine prim_ok ent_join fun args m out ho => ?_
  unfold pJoin at ho
  split at ho
  · rename_i nl sz xs sep
    split at ho
    · rename_i hn
      cases ho
      refine ⟨_, rfl, fun φ g w cargs hi hg hr => ?_⟩
      have hs := hn.choose_spec
      generalize hn.choose = l at hs ⊢
      obtain ⟨rfl, h1, h2, h3, h4⟩ := hs
      obtain ⟨c1, cs, rfl, hc1, c2, cs2, rfl, hc2, hcs⟩ := hr
      obtain rfl : cs2 = [] := hcs
      obtain rfl : c2 = .string ⟨sep.toArray⟩ := hc2
      have none_ : ∀ a cap, c1 = .slice a 0 cap → l = [] → Calls Tryz.prog F.strings_Join [c1, .string ⟨sep.toArray⟩].toArray w fun e w' => Below w.heap.size w w' ∧ ∃ cv, e = .returned cv ∧ Rep (know φ w w' fun _ => true) g m (.str (Lib.join l sep)) cv := by
        rintro a cap rfl rfl
        refine (Tryz.strings_Join_none a cap ⟨sep.toArray⟩ w).mono fun e w' hq => ?_
        obtain ⟨rfl, rfl⟩ := hq
        exact ⟨Below.refl _ _, _, rfl, rfl⟩
      rcases hc1 with ⟨rfl, e, rfl⟩ | ⟨rfl, a, cap, evs, rfl, hcap, hx, hf, hm⟩
      · exact none_ _ _ rfl (by simpa using e)
      · cases l with
        | nil => exact none_ _ _ rfl rfl
        | cons x r =>
          have he := cells_str hi _ _ hx
          subst he
          rw [flat_strs] at hm
          have h0 := hi.known _ _ (hm 0 _ rfl)
          have hsp : a.spot = none := by
            have e : a.add 0 = a := by simp [Addr.add]
            rw [e] at h0
            unfold World.cell? at h0
            split at h0
            · split at h0
              · cases h0
              · rename_i h; simpa using h
            · cases h0
          obtain ⟨bk, o, sp⟩ := a
          obtain rfl : sp = none := hsp
          have hlt := World.block_lt_of_cell? w _ h0
          have hjl : (Lib.join (x :: r) sep).length ≤ 140737488355328 := by
            rw [Lib.join_length]
            have : sep.length * r.length ≤ 1000 * 100000 := Nat.mul_le_mul (by omega) (by simp only [List.length_cons] at h2; omega)
            exact Nat.le_trans (Nat.add_le_add this (Nat.le_of_lt h4)) (by decide)
          have e1 : ((x :: r).map fun s => (⟨s.toArray⟩ : ByteArray)).map (·.data.toList) = x :: r := by simp [Function.comp_def]
          have e2 : ((x :: r).map fun s => (⟨s.toArray⟩ : ByteArray)).length = (List.map V.str (x :: r)).length := by simp
          have hk := Tryz.strings_Join bk o cap ((x :: r).map fun s => ⟨s.toArray⟩) ⟨sep.toArray⟩ w (fun j y hy => ?_) (by simpa [Addr.add] using hlt) (by simp at h2 ⊢; omega) (by rw [e2]; exact hcap) (by rw [e1]; exact hjl)
          · rw [e1, e2] at hk
            refine hk.mono fun e w' hq => ?_
            obtain ⟨rfl, hb⟩ := hq
            exact ⟨hb, _, rfl, rfl⟩
          · have := hi.known _ _ (hm j (.string y) ?_)
            · rwa [add_mk] at this
            · simp only [List.getElem?_map] at hy ⊢
              cases hq : (x :: r)[j]? with
              | none => rw [hq] at hy; cases hy
              | some z => rw [hq] at hy; cases hy; rfl
    · cases ho
  · cases ho
end Go.Vm.Redo
-- RM4: The pure machine of this seat, without redo.Encode, is the program's.
set_option maxRecDepth 100000
namespace Go.Vm.Redo
open Go Go.Vm Go.Proofs Go.RowKit

theorem follows : Tryz.prog.follows .mixedOrders = true := by kernel_rfl
theorem mach_ok {w0 : World} (hL : Laid w0) : MachOK Tryz.prog w0 ann MM := by
  refine ⟨fun f F h => h, fun f p h => ?_⟩
  change primR f = some p at h
  unfold primR at h
  split at h
  · rename_i e; cases h; subst e; exact ok_itoa hL
  · split at h
    · rename_i e; cases h; subst e; exact ok_fields hL
    · split at h
      · rename_i e; cases h; subst e; exact ok_replace hL
      · split at h
        · rename_i e; cases h; subst e; exact ok_join
        · cases h
/-- What the world lists, it lists in every later one. -/
theorem Laid.later {w0 w : World} {φ : Phi} {g : List GO} {m : Mem} (h : Laid w0) (hi : Inv w0 φ g m w) : Laid w :=
  ⟨tab_at hi (gl := 3) (by kernel_rfl) h.pow, tab_at hi (gl := 0) (by kernel_rfl) h.sp, shaped_at hi h.shaped⟩
end Go.Vm.Redo
