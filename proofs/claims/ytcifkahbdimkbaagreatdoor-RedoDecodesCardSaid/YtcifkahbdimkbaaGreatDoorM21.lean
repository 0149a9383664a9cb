/- Part 21 of the ground under the rows: redo.Encode: the two regions that are walked by hand. -/
import Derived.Test.YtcifkahbdimkbaaGreatDoorM20
import Derived.WalkKit
import Derived.WalkSpells
import Derived.RegionTactic
import Derived.Laws.MakeOwn
import Derived.Handed
import Derived.ChangeSame
set_option linter.unusedSimpArgs false
set_option linter.unusedVariables false
-- RE3: redo.Encode: the two regions that are walked by hand.
set_option maxRecDepth 100000
namespace Go.Vm.Redo
open Go Go.Vm Go.Proofs Go.RowKit

theorem lit66 (a : Act) (h : a.tmps.size = 66) : ∃ x0 x1 x2 x3 x4 x5 x6 x7 x8 x9 x10 x11 x12 x13 x14 x15 x16 x17 x18 x19 x20 x21 x22 x23 x24 x25 x26 x27 x28 x29 x30 x31 x32 x33 x34 x35 x36 x37 x38 x39 x40 x41 x42 x43 x44 x45 x46 x47 x48 x49 x50 x51 x52 x53 x54 x55 x56 x57 x58 x59 x60 x61 x62 x63 x64 x65 : Value, a.tmps = #[x0, x1, x2, x3, x4, x5, x6, x7, x8, x9, x10, x11, x12, x13, x14, x15, x16, x17, x18, x19, x20, x21, x22, x23, x24, x25, x26, x27, x28, x29, x30, x31, x32, x33, x34, x35, x36, x37, x38, x39, x40, x41, x42, x43, x44, x45, x46, x47, x48, x49, x50, x51, x52, x53, x54, x55, x56, x57, x58, x59, x60, x61, x62, x63, x64, x65] := by
  obtain ⟨⟨l⟩, d⟩ := a
  simp only [List.size_toArray] at h
  obtain ⟨x0, l, rfl⟩ : ∃ x l', l = x :: l' := by cases l with | nil => simp at h | cons x l => exact ⟨x, l, rfl⟩
  obtain ⟨x1, l, rfl⟩ : ∃ x l', l = x :: l' := by cases l with | nil => simp at h | cons x l => exact ⟨x, l, rfl⟩
  obtain ⟨x2, l, rfl⟩ : ∃ x l', l = x :: l' := by cases l with | nil => simp at h | cons x l => exact ⟨x, l, rfl⟩
  obtain ⟨x3, l, rfl⟩ : ∃ x l', l = x :: l' := by cases l with | nil => simp at h | cons x l => exact ⟨x, l, rfl⟩
  obtain ⟨x4, l, rfl⟩ : ∃ x l', l = x :: l' := by cases l with | nil => simp at h | cons x l => exact ⟨x, l, rfl⟩
  obtain ⟨x5, l, rfl⟩ : ∃ x l', l = x :: l' := by cases l with | nil => simp at h | cons x l => exact ⟨x, l, rfl⟩
  obtain ⟨x6, l, rfl⟩ : ∃ x l', l = x :: l' := by cases l with | nil => simp at h | cons x l => exact ⟨x, l, rfl⟩
  obtain ⟨x7, l, rfl⟩ : ∃ x l', l = x :: l' := by cases l with | nil => simp at h | cons x l => exact ⟨x, l, rfl⟩
  obtain ⟨x8, l, rfl⟩ : ∃ x l', l = x :: l' := by cases l with | nil => simp at h | cons x l => exact ⟨x, l, rfl⟩
  obtain ⟨x9, l, rfl⟩ : ∃ x l', l = x :: l' := by cases l with | nil => simp at h | cons x l => exact ⟨x, l, rfl⟩
  obtain ⟨x10, l, rfl⟩ : ∃ x l', l = x :: l' := by cases l with | nil => simp at h | cons x l => exact ⟨x, l, rfl⟩
  obtain ⟨x11, l, rfl⟩ : ∃ x l', l = x :: l' := by cases l with | nil => simp at h | cons x l => exact ⟨x, l, rfl⟩
  obtain ⟨x12, l, rfl⟩ : ∃ x l', l = x :: l' := by cases l with | nil => simp at h | cons x l => exact ⟨x, l, rfl⟩
  obtain ⟨x13, l, rfl⟩ : ∃ x l', l = x :: l' := by cases l with | nil => simp at h | cons x l => exact ⟨x, l, rfl⟩
  obtain ⟨x14, l, rfl⟩ : ∃ x l', l = x :: l' := by cases l with | nil => simp at h | cons x l => exact ⟨x, l, rfl⟩
  obtain ⟨x15, l, rfl⟩ : ∃ x l', l = x :: l' := by cases l with | nil => simp at h | cons x l => exact ⟨x, l, rfl⟩
  obtain ⟨x16, l, rfl⟩ : ∃ x l', l = x :: l' := by cases l with | nil => simp at h | cons x l => exact ⟨x, l, rfl⟩
  obtain ⟨x17, l, rfl⟩ : ∃ x l', l = x :: l' := by cases l with | nil => simp at h | cons x l => exact ⟨x, l, rfl⟩
  obtain ⟨x18, l, rfl⟩ : ∃ x l', l = x :: l' := by cases l with | nil => simp at h | cons x l => exact ⟨x, l, rfl⟩
  obtain ⟨x19, l, rfl⟩ : ∃ x l', l = x :: l' := by cases l with | nil => simp at h | cons x l => exact ⟨x, l, rfl⟩
  obtain ⟨x20, l, rfl⟩ : ∃ x l', l = x :: l' := by cases l with | nil => simp at h | cons x l => exact ⟨x, l, rfl⟩
  obtain ⟨x21, l, rfl⟩ : ∃ x l', l = x :: l' := by cases l with | nil => simp at h | cons x l => exact ⟨x, l, rfl⟩
  obtain ⟨x22, l, rfl⟩ : ∃ x l', l = x :: l' := by cases l with | nil => simp at h | cons x l => exact ⟨x, l, rfl⟩
  obtain ⟨x23, l, rfl⟩ : ∃ x l', l = x :: l' := by cases l with | nil => simp at h | cons x l => exact ⟨x, l, rfl⟩
  obtain ⟨x24, l, rfl⟩ : ∃ x l', l = x :: l' := by cases l with | nil => simp at h | cons x l => exact ⟨x, l, rfl⟩
  obtain ⟨x25, l, rfl⟩ : ∃ x l', l = x :: l' := by cases l with | nil => simp at h | cons x l => exact ⟨x, l, rfl⟩
  obtain ⟨x26, l, rfl⟩ : ∃ x l', l = x :: l' := by cases l with | nil => simp at h | cons x l => exact ⟨x, l, rfl⟩
  obtain ⟨x27, l, rfl⟩ : ∃ x l', l = x :: l' := by cases l with | nil => simp at h | cons x l => exact ⟨x, l, rfl⟩
  obtain ⟨x28, l, rfl⟩ : ∃ x l', l = x :: l' := by cases l with | nil => simp at h | cons x l => exact ⟨x, l, rfl⟩
  obtain ⟨x29, l, rfl⟩ : ∃ x l', l = x :: l' := by cases l with | nil => simp at h | cons x l => exact ⟨x, l, rfl⟩
  obtain ⟨x30, l, rfl⟩ : ∃ x l', l = x :: l' := by cases l with | nil => simp at h | cons x l => exact ⟨x, l, rfl⟩
  obtain ⟨x31, l, rfl⟩ : ∃ x l', l = x :: l' := by cases l with | nil => simp at h | cons x l => exact ⟨x, l, rfl⟩
  obtain ⟨x32, l, rfl⟩ : ∃ x l', l = x :: l' := by cases l with | nil => simp at h | cons x l => exact ⟨x, l, rfl⟩
  obtain ⟨x33, l, rfl⟩ : ∃ x l', l = x :: l' := by cases l with | nil => simp at h | cons x l => exact ⟨x, l, rfl⟩
  obtain ⟨x34, l, rfl⟩ : ∃ x l', l = x :: l' := by cases l with | nil => simp at h | cons x l => exact ⟨x, l, rfl⟩
  obtain ⟨x35, l, rfl⟩ : ∃ x l', l = x :: l' := by cases l with | nil => simp at h | cons x l => exact ⟨x, l, rfl⟩
  obtain ⟨x36, l, rfl⟩ : ∃ x l', l = x :: l' := by cases l with | nil => simp at h | cons x l => exact ⟨x, l, rfl⟩
  obtain ⟨x37, l, rfl⟩ : ∃ x l', l = x :: l' := by cases l with | nil => simp at h | cons x l => exact ⟨x, l, rfl⟩
  obtain ⟨x38, l, rfl⟩ : ∃ x l', l = x :: l' := by cases l with | nil => simp at h | cons x l => exact ⟨x, l, rfl⟩
  obtain ⟨x39, l, rfl⟩ : ∃ x l', l = x :: l' := by cases l with | nil => simp at h | cons x l => exact ⟨x, l, rfl⟩
  obtain ⟨x40, l, rfl⟩ : ∃ x l', l = x :: l' := by cases l with | nil => simp at h | cons x l => exact ⟨x, l, rfl⟩
  obtain ⟨x41, l, rfl⟩ : ∃ x l', l = x :: l' := by cases l with | nil => simp at h | cons x l => exact ⟨x, l, rfl⟩
  obtain ⟨x42, l, rfl⟩ : ∃ x l', l = x :: l' := by cases l with | nil => simp at h | cons x l => exact ⟨x, l, rfl⟩
  obtain ⟨x43, l, rfl⟩ : ∃ x l', l = x :: l' := by cases l with | nil => simp at h | cons x l => exact ⟨x, l, rfl⟩
  obtain ⟨x44, l, rfl⟩ : ∃ x l', l = x :: l' := by cases l with | nil => simp at h | cons x l => exact ⟨x, l, rfl⟩
  obtain ⟨x45, l, rfl⟩ : ∃ x l', l = x :: l' := by cases l with | nil => simp at h | cons x l => exact ⟨x, l, rfl⟩
  obtain ⟨x46, l, rfl⟩ : ∃ x l', l = x :: l' := by cases l with | nil => simp at h | cons x l => exact ⟨x, l, rfl⟩
  obtain ⟨x47, l, rfl⟩ : ∃ x l', l = x :: l' := by cases l with | nil => simp at h | cons x l => exact ⟨x, l, rfl⟩
  obtain ⟨x48, l, rfl⟩ : ∃ x l', l = x :: l' := by cases l with | nil => simp at h | cons x l => exact ⟨x, l, rfl⟩
  obtain ⟨x49, l, rfl⟩ : ∃ x l', l = x :: l' := by cases l with | nil => simp at h | cons x l => exact ⟨x, l, rfl⟩
  obtain ⟨x50, l, rfl⟩ : ∃ x l', l = x :: l' := by cases l with | nil => simp at h | cons x l => exact ⟨x, l, rfl⟩
  obtain ⟨x51, l, rfl⟩ : ∃ x l', l = x :: l' := by cases l with | nil => simp at h | cons x l => exact ⟨x, l, rfl⟩
  obtain ⟨x52, l, rfl⟩ : ∃ x l', l = x :: l' := by cases l with | nil => simp at h | cons x l => exact ⟨x, l, rfl⟩
  obtain ⟨x53, l, rfl⟩ : ∃ x l', l = x :: l' := by cases l with | nil => simp at h | cons x l => exact ⟨x, l, rfl⟩
  obtain ⟨x54, l, rfl⟩ : ∃ x l', l = x :: l' := by cases l with | nil => simp at h | cons x l => exact ⟨x, l, rfl⟩
  obtain ⟨x55, l, rfl⟩ : ∃ x l', l = x :: l' := by cases l with | nil => simp at h | cons x l => exact ⟨x, l, rfl⟩
  obtain ⟨x56, l, rfl⟩ : ∃ x l', l = x :: l' := by cases l with | nil => simp at h | cons x l => exact ⟨x, l, rfl⟩
  obtain ⟨x57, l, rfl⟩ : ∃ x l', l = x :: l' := by cases l with | nil => simp at h | cons x l => exact ⟨x, l, rfl⟩
  obtain ⟨x58, l, rfl⟩ : ∃ x l', l = x :: l' := by cases l with | nil => simp at h | cons x l => exact ⟨x, l, rfl⟩
  obtain ⟨x59, l, rfl⟩ : ∃ x l', l = x :: l' := by cases l with | nil => simp at h | cons x l => exact ⟨x, l, rfl⟩
  obtain ⟨x60, l, rfl⟩ : ∃ x l', l = x :: l' := by cases l with | nil => simp at h | cons x l => exact ⟨x, l, rfl⟩
  obtain ⟨x61, l, rfl⟩ : ∃ x l', l = x :: l' := by cases l with | nil => simp at h | cons x l => exact ⟨x, l, rfl⟩
  obtain ⟨x62, l, rfl⟩ : ∃ x l', l = x :: l' := by cases l with | nil => simp at h | cons x l => exact ⟨x, l, rfl⟩
  obtain ⟨x63, l, rfl⟩ : ∃ x l', l = x :: l' := by cases l with | nil => simp at h | cons x l => exact ⟨x, l, rfl⟩
  obtain ⟨x64, l, rfl⟩ : ∃ x l', l = x :: l' := by cases l with | nil => simp at h | cons x l => exact ⟨x, l, rfl⟩
  obtain ⟨x65, l, rfl⟩ : ∃ x l', l = x :: l' := by cases l with | nil => simp at h | cons x l => exact ⟨x, l, rfl⟩
  obtain rfl : l = [] := by cases l with | nil => rfl | cons x l => simp at h
  exact ⟨x0, x1, x2, x3, x4, x5, x6, x7, x8, x9, x10, x11, x12, x13, x14, x15, x16, x17, x18, x19, x20, x21, x22, x23, x24, x25, x26, x27, x28, x29, x30, x31, x32, x33, x34, x35, x36, x37, x38, x39, x40, x41, x42, x43, x44, x45, x46, x47, x48, x49, x50, x51, x52, x53, x54, x55, x56, x57, x58, x59, x60, x61, x62, x63, x64, x65, rfl⟩

set_option maxHeartbeats 1000000 in
/-- The bytes and the writer are made. -/
theorem reg3 {Q : Exit → Act → World → Prop} {w : World} (x0 x1 x2 x3 x4 x5 x6 x7 x8 x9 x10 x11 x12 x13 x14 x15 x16 x17 x18 x19 x20 x21 x22 x23 x24 x25 x26 x27 x28 x29 x30 x31 x32 x33 x34 x35 x36 x37 x38 x39 x40 x41 x42 x43 x44 x45 x46 x47 x48 x49 x50 x51 x52 x53 x54 x55 x56 x57 x58 x59 x60 x61 x62 x63 x64 x65 : Value)
    (hQ : ∀ a, a.tmps.size = 66 → a.defers = [] → a.tmps.getD 1 undef = x1 → a.tmps.getD 4 undef = .pointer (some ⟨w.heap.size + 1, 0, none⟩) →
      Q .normal a ((w.alloc (.cells #[.int .u8 0, .int .u8 0] 5)).alloc (.cells #[.slice (some ⟨w.heap.size, 0, none⟩) 2 2] 61))) :
    cR3.wp Tryz.prog Q ⟨#[x0, x1, x2, x3, x4, x5, x6, x7, x8, x9, x10, x11, x12, x13, x14, x15, x16, x17, x18, x19, x20, x21, x22, x23, x24, x25, x26, x27, x28, x29, x30, x31, x32, x33, x34, x35, x36, x37, x38, x39, x40, x41, x42, x43, x44, x45, x46, x47, x48, x49, x50, x51, x52, x53, x54, x55, x56, x57, x58, x59, x60, x61, x62, x63, x64, x65], []⟩ w := by
  obtain ⟨cz, hzr, hzc, i, hinf, hiz⟩ := zeroT_run (φ := fun _ => none) (show zeroT Tryz.prog 5 = some (.int .u8 0) by kernel_rfl) w
  obtain rfl : cz = .int .u8 0 := hzc
  have hb : i.bytes = 1 := by
    have h : bytesOf Tryz.prog 5 = some 1 := by kernel_rfl
    unfold bytesOf at h; rw [hinf] at h; exact Option.some.inj h
  have hs : i.size = 1 := by
    have h : szOf Tryz.prog 5 = some 1 := by kernel_rfl
    unfold szOf at h; rw [hinf] at h; exact Option.some.inj h
  have hmk : (Instr.makeSlice 30 (.int .i64 2) (.int .i64 2)).run Tryz.prog w = .ok (.slice (some ⟨w.heap.size, 0, none⟩) 2 2) (w.alloc (.cells #[.int .u8 0, .int .u8 0] 5)) := by
    have h := run_make (P := Tryz.prog) w 30 5 i (.int .u8 0) Tryz.underlying30 hinf hiz .i64 .i64 2 2 (by omega) (by omega) (by rw [hb]; omega) (by omega)
    rw [hs] at h
    have e : madeCells (Value.int .u8 0).cells (Int.toNat 2 * 1) = #[.int .u8 0, .int .u8 0] := by kernel_rfl
    rw [e] at h
    exact h
  clear hzr hinf hiz hb hs
  simp only [cR3, lftC, rgtC, bodyE, Tryz.f12, Option.getD_some]
  go_wp2
  exact hQ _ rfl rfl rfl rfl

set_option maxHeartbeats 1000000 in
/-- The first two bytes are set. -/
theorem reg13 {K : Act → World → Prop} {fn : Func} {R : Ending → World → Prop} {w : World} {wb rb len cap : Nat} {n : Int} {y0 y1 : Value} (x0 x1 x2 x3 x4 x5 x6 x7 x8 x9 x10 x11 x12 x13 x14 x15 x16 x17 x18 x19 x20 x21 x22 x23 x24 x25 x26 x27 x28 x29 x30 x31 x32 x33 x34 x35 x36 x37 x38 x39 x40 x41 x42 x43 x44 x45 x46 x47 x48 x49 x50 x51 x52 x53 x54 x55 x56 x57 x58 x59 x60 x61 x62 x63 x64 x65 : Value) (h4 : x4 = .pointer (some ⟨wb, 0, none⟩)) (h7 : x7 = .int .i64 n)
    (hw : w.cell? ⟨wb, 0, none⟩ = some (.slice (some ⟨rb, 0, none⟩) len cap)) (hl : 2 ≤ len) (c0 : w.cell? ⟨rb, 0, none⟩ = some y0) (f0 : w.frozen? ⟨rb, 0, none⟩ = false) (c1 : w.cell? ⟨rb, 1, none⟩ = some y1) (f1 : w.frozen? ⟨rb, 1, none⟩ = false)
    (hQ : ∀ a, a.tmps.size = 66 → a.defers = [] → a.tmps.getD 4 undef = .pointer (some ⟨wb, 0, none⟩) →
      K a ((w.setCell ⟨rb, 0, none⟩ (.int .u8 (n / 256 % 256))).setCell ⟨rb, 1, none⟩ (.int .u8 (n % 256))).drew) :
    cR13.wp Tryz.prog (Exit.then K (bodyPost Tryz.prog fn R)) ⟨#[x0, x1, x2, x3, x4, x5, x6, x7, x8, x9, x10, x11, x12, x13, x14, x15, x16, x17, x18, x19, x20, x21, x22, x23, x24, x25, x26, x27, x28, x29, x30, x31, x32, x33, x34, x35, x36, x37, x38, x39, x40, x41, x42, x43, x44, x45, x46, x47, x48, x49, x50, x51, x52, x53, x54, x55, x56, x57, x58, x59, x60, x61, x62, x63, x64, x65], []⟩ w := by
  subst h4 h7
  have hi0 : (0 : Int) < (len : Int) := by omega
  have hi1 : (1 : Int) < (len : Int) := by omega
  simp only [cR13, lftC, rgtC, bodyE, Tryz.f12, Option.getD_some]
  go_region
  all_goals exact hQ _ rfl rfl rfl

theorem reg3' {Q : Exit → Act → World → Prop} {w : World} {a : Act} (hz : a.tmps.size = 66) (hd : a.defers = [])
    (hQ : ∀ a', a'.tmps.size = 66 → a'.defers = [] → a'.tmps.getD 1 undef = a.tmps.getD 1 undef → a'.tmps.getD 4 undef = .pointer (some ⟨w.heap.size + 1, 0, none⟩) →
      Q .normal a' ((w.alloc (.cells #[.int .u8 0, .int .u8 0] 5)).alloc (.cells #[.slice (some ⟨w.heap.size, 0, none⟩) 2 2] 61))) : cR3.wp Tryz.prog Q a w := by
  obtain ⟨x0, x1, x2, x3, x4, x5, x6, x7, x8, x9, x10, x11, x12, x13, x14, x15, x16, x17, x18, x19, x20, x21, x22, x23, x24, x25, x26, x27, x28, x29, x30, x31, x32, x33, x34, x35, x36, x37, x38, x39, x40, x41, x42, x43, x44, x45, x46, x47, x48, x49, x50, x51, x52, x53, x54, x55, x56, x57, x58, x59, x60, x61, x62, x63, x64, x65, h⟩ := lit66 a hz
  obtain ⟨tm, df⟩ := a
  simp only at h hd
  subst h hd
  exact reg3 x0 x1 x2 x3 x4 x5 x6 x7 x8 x9 x10 x11 x12 x13 x14 x15 x16 x17 x18 x19 x20 x21 x22 x23 x24 x25 x26 x27 x28 x29 x30 x31 x32 x33 x34 x35 x36 x37 x38 x39 x40 x41 x42 x43 x44 x45 x46 x47 x48 x49 x50 x51 x52 x53 x54 x55 x56 x57 x58 x59 x60 x61 x62 x63 x64 x65 hQ
theorem reg13' {K : Act → World → Prop} {fn : Func} {R : Ending → World → Prop} {w : World} {wb rb len cap : Nat} {n : Int} {y0 y1 : Value} {a : Act} (hz : a.tmps.size = 66) (hd : a.defers = [])
    (h4 : a.tmps.getD 4 undef = .pointer (some ⟨wb, 0, none⟩)) (h7 : a.tmps.getD 7 undef = .int .i64 n)
    (hw : w.cell? ⟨wb, 0, none⟩ = some (.slice (some ⟨rb, 0, none⟩) len cap)) (hl : 2 ≤ len) (c0 : w.cell? ⟨rb, 0, none⟩ = some y0) (f0 : w.frozen? ⟨rb, 0, none⟩ = false) (c1 : w.cell? ⟨rb, 1, none⟩ = some y1) (f1 : w.frozen? ⟨rb, 1, none⟩ = false)
    (hQ : ∀ a', a'.tmps.size = 66 → a'.defers = [] → a'.tmps.getD 4 undef = .pointer (some ⟨wb, 0, none⟩) →
      K a' ((w.setCell ⟨rb, 0, none⟩ (.int .u8 (n / 256 % 256))).setCell ⟨rb, 1, none⟩ (.int .u8 (n % 256))).drew) : cR13.wp Tryz.prog (Exit.then K (bodyPost Tryz.prog fn R)) a w := by
  obtain ⟨x0, x1, x2, x3, x4, x5, x6, x7, x8, x9, x10, x11, x12, x13, x14, x15, x16, x17, x18, x19, x20, x21, x22, x23, x24, x25, x26, x27, x28, x29, x30, x31, x32, x33, x34, x35, x36, x37, x38, x39, x40, x41, x42, x43, x44, x45, x46, x47, x48, x49, x50, x51, x52, x53, x54, x55, x56, x57, x58, x59, x60, x61, x62, x63, x64, x65, h⟩ := lit66 a hz
  obtain ⟨tm, df⟩ := a
  simp only at h hd
  subst h hd
  exact reg13 x0 x1 x2 x3 x4 x5 x6 x7 x8 x9 x10 x11 x12 x13 x14 x15 x16 x17 x18 x19 x20 x21 x22 x23 x24 x25 x26 x27 x28 x29 x30 x31 x32 x33 x34 x35 x36 x37 x38 x39 x40 x41 x42 x43 x44 x45 x46 x47 x48 x49 x50 x51 x52 x53 x54 x55 x56 x57 x58 x59 x60 x61 x62 x63 x64 x65 h4 h7 hw hl c0 f0 c1 f1 hQ
end Go.Vm.Redo
-- RE4: redo.Encode: its contract.
set_option maxRecDepth 100000
namespace Go.Vm
open Go Go.RowKit
theorem inv_bare {w : World} {φ : Phi} (h : ∀ a v, φ a = some v → w.cell? a = some v) : Inv w φ [] [] w := by
  refine ⟨rfl, Below.refl _ _, h, ?_, ?_, ?_, ?_, ?_, ?_⟩ <;> intros <;> simp_all [look]
theorem closed_zero (m : Mem) : Closed 0 m := fun r hr => by omega

/-- Begun anew: a row and a variable that shows it. -/
theorem inv_anew {w w' : World} {φ : Phi} (hk : ∀ a v, φ a = some v → w.cell? a = some v) (hb : Below w.heap.size w w') {wb rb cap : Nat} {bs : List UInt8} (hne : bs ≠ []) (hwb : w.heap.size ≤ wb) (hwb' : wb < w'.heap.size) (hrb : w.heap.size ≤ rb)
    (hrb' : rb < w'.heap.size) (hd : wb ≠ rb) (hcap : bs.length ≤ cap) (hw : w'.cell? ⟨wb, 0, none⟩ = some (.slice (some ⟨rb, 0, none⟩) bs.length cap)) (hwf : ∀ j, w'.frozen? ⟨wb, j, none⟩ = false)
    (hc : ∀ j (c : UInt8), bs[j]? = some c → w'.cell? ⟨rb, j, none⟩ = some (.int .u8 c.toNat)) (hs : ∀ j, bs.length ≤ j → j < cap → (w'.cell? ⟨rb, j, none⟩).isSome = true) (hf : ∀ j, w'.frozen? ⟨rb, j, none⟩ = false) :
    ∃ φ', Inv w φ' [.obj wb, .row (some ⟨rb, 0, none⟩) cap] [.cells [.gs 0 bs.length], .buf 1 false (bytesV bs)] w' ∧ Ext φ φ' := by
  let φ' : Phi := fun a => if a.block = rb ∧ a.spot = none ∧ a.off < bs.length then w'.cell? a else φ a
  have old : ∀ a v, φ a = some v → a.block < w.heap.size := fun a v h => World.block_lt_of_cell? w a (hk a v h)
  have hext : Ext φ φ' := fun a v h => by
    have := old a v h
    simp only [φ']
    rw [if_neg (fun hh => by omega)]
    exact h
  have hnone : ∀ a : Addr, w.heap.size ≤ a.block → φ a = none := fun a h => by
    cases e : φ a with
    | none => rfl
    | some v => have := old a v e; omega
  have hbl : (bytesV bs).length = bs.length := bytesV_len bs
  have hels : Els φ' ⟨rb, 0, none⟩ 1 (bytesV bs) := by
    refine ⟨bs.map fun c => .int .u8 c.toNat, ?_, fun x hx => ?_, fun j v hv => ?_⟩
    · clear hne hcap hw hc hs hext hbl hnone
      generalize φ' = ψ
      induction bs with
      | nil => exact RepCL.nil
      | cons c l ih => exact RepCL.cons rfl ih
    · obtain ⟨c, _, rfl⟩ := List.mem_map.1 hx; rfl
    · have hfl : flat (bs.map fun c => Value.int .u8 c.toNat) = bs.map fun c => Value.int .u8 c.toNat := by
        clear hne hcap hw hc hs hext hbl hv hnone
        induction bs with
        | nil => rfl
        | cons c l ih => simp only [flat, List.map_cons, List.flatMap_cons] at ih ⊢; rw [ih]; rfl
      rw [hfl, List.getElem?_map] at hv
      cases hq : bs[j]? with
      | none => rw [hq] at hv; cases hv
      | some c =>
        rw [hq] at hv
        have hlt := (List.getElem?_eq_some_iff.1 hq).1
        rw [add_mk, Nat.zero_add]
        simp only [φ']
        rw [if_pos (by simp [hlt]), hc j c hq]
        exact hv
  have hrow : RowAt w φ' w' 1 false (bytesV bs) (some ⟨rb, 0, none⟩) cap := by
    refine .inr ⟨by simp, rb, rfl, hrb, hrb', by rw [hbl]; exact hcap, hels, fun j hj => ⟨fun hlt => hs j (by rw [hbl] at hj; omega) (by omega), hf j, ?_⟩, hf⟩
    simp only [φ']
    rw [if_neg (fun hh => by rw [hbl] at hj; have : j < bs.length := hh.2.2; omega)]
    exact hnone _ hrb
  refine ⟨φ', ⟨rfl, hb, fun a v h => ?_, ?_, ?_, ?_, ?_, ?_, ?_⟩, hext⟩
  · simp only [φ'] at h
    split at h
    · exact h
    · rw [hb.cell (old a v h)]; exact hk a v h
  · intro r cs h
    simp only [look] at h
    split at h
    · rename_i e
      cases h
      have e : r = 1 := e
      subst e
      refine ⟨wb, [.slice (some ⟨rb, 0, none⟩) bs.length cap], rfl, RepL.cons ?_ RepL.nil, fun v hv => by simp at hv; subst hv; rfl, fun i v hi => ?_, hwf⟩
      · refine ⟨1, false, bytesV bs, some ⟨rb, 0, none⟩, cap, rfl, rfl, by rw [hbl]; exact Nat.le_refl _, fun _ => rfl, .inr ⟨by simp, ⟨rb, 0, none⟩, cap, rfl, hcap, ?_⟩⟩
        rw [List.take_of_length_le (by rw [hbl]; exact Nat.le_refl _)]
        exact hels
      · cases i with
        | zero => cases hi; exact hw
        | succ i => simp at hi
    · split at h
      · cases h
      · cases h
  · intro r s pos h
    simp only [look] at h
    repeat' split at h
    all_goals cases h
  · intro r ks vs h
    simp only [look] at h
    repeat' split at h
    all_goals cases h
  · intro k sz born xs h
    simp only [look] at h
    split at h
    · cases h
    · split at h
      · rename_i e
        cases h
        have e : k = 0 := e
        subst e
        exact ⟨_, _, rfl, hrow⟩
      · cases h
  · intro r blk h
    simp only [look] at h
    split at h
    · cases h
      refine ⟨hwb, hwb', fun a ha => ?_⟩
      simp only [φ']
      rw [if_neg (fun hh => hd (by rw [← ha]; exact hh.1))]
      exact hnone _ (by omega)
    · split at h <;> cases h
  · intro r r' x y b h1 h2 h3 h4
    simp only [look] at h1 h2
    split at h1 <;> split at h2
    · rename_i e1 e2; rw [e1, e2]
    · split at h2
      · cases h1; cases h2
        simp [GO.blk] at h3 h4
        omega
      · cases h2
    · split at h1
      · cases h1; cases h2
        simp [GO.blk] at h3 h4
        omega
      · cases h1
    · split at h1
      · split at h2
        · rename_i _ _ e1 e2; rw [e1, e2]
        · cases h2
      · cases h1
end Go.Vm
namespace Go.Vm.Redo
open Go Go.Vm Go.Proofs Go.RowKit

/-- How redo.Encode ends. -/
def EncPost (w : World) (o : Option (List UInt8) × Int) (e : Ending) (w' : World) : Prop :=
  Below w.heap.size w w' ∧ ∃ cs, e = .returned (.tuple #[cs, .int .i64 o.2]) ∧ match o.1 with
    | none => cs = .slice none 0 0
    | some b => ∃ blk cap, cs = .slice (some ⟨blk, 0, none⟩) b.length cap ∧ b.length ≤ cap ∧ w.heap.size ≤ blk ∧ blk < w'.heap.size ∧
      (∀ j (c : UInt8), b[j]? = some c → w'.cell? ⟨blk, j, none⟩ = some (.int .u8 c.toNat)) ∧ (∀ j, w'.frozen? ⟨blk, j, none⟩ = false) ∧ ∀ j, b.length ≤ j → j < cap → (w'.cell? ⟨blk, j, none⟩).isSome = true

theorem results12 (a : Act) (w : World) : (results Tryz.f12 a.tmps).run Tryz.prog w = .ok (.tuple #[a.tmps.getD 2 undef, a.tmps.getD 3 undef]) w := by
  have hr : Tryz.f12.results = #[.tmp 2, .tmp 3] := by kernel_rfl
  rw [results_eq, hr, Array.mapM_eq_mapM_toList]
  simp [List.mapM_cons, res1]

theorem slots12 {φ : Phi} {g : List GO} {m : Mem} {a : Act} {vars : List V} (hz : a.tmps.size = 66) (hd : a.defers = []) (h : ∀ i t, F12.slots[i]? = some t → vars.getD i .undef = .undef ∨ Rep φ g m (vars.getD i .undef) (a.tmps.getD t undef)) : VarsOK F12 φ g m vars a :=
  varsOK_of hz hd fun i t hs => by
    rcases h i t hs with e | e
    · rw [e]; exact rep_undef
    · exact e

theorem slotsB {φ : Phi} {g : List GO} {m : Mem} {a : Act} {p1 p4 : V} (hz : a.tmps.size = 66) (hd : a.defers = []) (h1 : Rep φ g m p1 (a.tmps.getD 1 undef)) (h4 : Rep φ g m p4 (a.tmps.getD 4 undef)) :
    VarsOK F12 φ g m [.undef, p1, .undef, .undef, p4, .undef, .undef, .undef, .undef, .undef, .undef, .undef, .undef] a := slots12 hz hd fun i t h => by
  have hlt : i < 13 := (List.getElem?_eq_some_iff.1 h).1
  match i, hlt, h with
  | 0, _, _ => exact .inl rfl
  | 1, _, h => cases h; exact .inr h1
  | 2, _, _ => exact .inl rfl
  | 3, _, _ => exact .inl rfl
  | 4, _, h => cases h; exact .inr h4
  | 5, _, _ => exact .inl rfl
  | 6, _, _ => exact .inl rfl
  | 7, _, _ => exact .inl rfl
  | 8, _, _ => exact .inl rfl
  | 9, _, _ => exact .inl rfl
  | 10, _, _ => exact .inl rfl
  | 11, _, _ => exact .inl rfl
  | 12, _, _ => exact .inl rfl
theorem els_bytes {φ : Phi} {w : World} {b : Nat} {bs : List UInt8} (h : Els φ ⟨b, 0, none⟩ 1 (bytesV bs)) (hk : ∀ a v, φ a = some v → w.cell? a = some v) : ∀ j (c : UInt8), bs[j]? = some c → w.cell? ⟨b, j, none⟩ = some (.int .u8 c.toNat) := by
  obtain ⟨evs, h1, h2, h3⟩ := h
  have e : evs = bs.map fun c => Value.int .u8 c.toNat := by
    clear h2 h3 hk
    induction bs generalizing evs with
    | nil => exact h1
    | cons c l ih =>
      obtain ⟨y, r, rfl, k1, k2⟩ := h1
      rw [ih r k2]
      obtain rfl : y = .int .u8 c.toNat := k1
      rfl
  subst e
  have hfl : ∀ l : List UInt8, flat (l.map fun c => Value.int .u8 c.toNat) = l.map fun c => Value.int .u8 c.toNat := fun l => by
    induction l with
    | nil => rfl
    | cons c l ih => simp only [flat, List.map_cons, List.flatMap_cons] at ih ⊢; rw [ih]; rfl
  rw [hfl] at h3
  intro j c hj
  have := hk _ _ (h3 j (.int .u8 c.toNat) (by rw [List.getElem?_map, hj]; rfl))
  rwa [add_mk, Nat.zero_add] at this

theorem encode_calls {w0 w : World} (hL : Laid w0) {φ : Phi} {g : List GO} {m : Mem} (hi : Inv w0 φ g m w) (hg : Globs ann φ) (x : Rec) (hx : x.Fit) {args : List Value} (hr : RepL φ g m [x.toV] args) :
    Calls Tryz.prog F.redo_Encode args.toArray w fun e w' => EncPost w (encode x) e w' := by
  have hM : MachOK Tryz.prog w ann MM := mach_ok (hL.later hi)
  have hi0 : Inv w φ [] [] w := inv_bare hi.known
  obtain ⟨c, rfl, hc⟩ := repL1 hr
  have hc0 : RepC φ x.toV c := Rep.closed _ _ (by simp [Rec.toV, Rec.cells, V.under, V.underL]) hc
  have hrc : Rep φ [] [] x.toV c := RepC.rep _ _ hc0
  refine calls_of_wp Tryz.func12 body_pieces ?_
  have hv0 : VarsOK F12 φ [] [] (x.toV :: List.replicate 12 .undef) { tmps := [c].toArray ++ Array.replicate (Tryz.f12.ntmps - [c].toArray.size) undef, defers := [] } := by
    refine slots12 (by have : Tryz.f12.ntmps = 66 := by kernel_rfl
                       rw [this]; simp) rfl fun i t h => ?_
    match i with
    | 0 => cases h; exact .inr (by simpa using hrc)
    | i + 1 =>
      refine .inl ?_
      simp only [List.getD, List.getElem?_cons_succ, List.getElem?_replicate]
      split <;> rfl
  -- the record is laid
  refine ex_then follows hM kR0 (eR0 x) (Nat.zero_le _) (closed_zero _) hi0 hg hv0 fun a1 w1 φ1 g1 go1 hv1 => ?_
  have hg1 := hg.ext go1.ext
  cases hvx : validR x with
  | false =>
    have e := eC1 x hx
    rw [hvx] at e
    simp only [Bool.false_eq_true, if_false] at e
    refine ex_end follows hM kC1 e (Nat.zero_le _) (closed_zero _) go1.inv hg1 hv1 fun a2 w2 φ2 g2 go2 hv2 => ?_
    refine ⟨hv2.2.1, _, results12 a2 w2, go2.inv.base, a2.tmps.getD 2 undef, ?_, ?_⟩
    · have h3 : a2.tmps.getD 3 undef = .int .i64 2 := rep_int (hv2.2.2 3 3 rfl)
      rw [encode_invalid x hvx, h3]
    · rw [encode_invalid x hvx]
      obtain ⟨a', cap, h1, _, h⟩ := rep_sl (hv2.2.2 2 2 rfl)
      rcases h with ⟨_, _, rfl, rfl⟩ | ⟨h, _⟩
      · exact h1
      · cases h
  | true =>
    have e := eC1 x hx
    rw [hvx] at e
    simp only [if_true] at e
    refine ex_then follows hM kC1 e (Nat.zero_le _) (closed_zero _) go1.inv hg1 hv1 fun a2 w2 φ2 g2 go2 hv2 => ?_
    have hg2 := hg1.ext go2.ext
    have hi2 := go2.inv
    refine wp_seq (reg3' hv2.1 hv2.2.1 fun a3 hz3 hd3 h31 h34 => ?_)
    change (Code.seq cR4 _).wp _ _ _ _
    have hlen2 : g2.length = 1 := hi2.len
    obtain ⟨φ3, go3, hels3⟩ := hi2.pushRow (below_alloc w2 (.cells #[.int .u8 0, .int .u8 0] 5)) false 1 2 (bytesV [0, 0]) [.int .u8 0, .int .u8 0] (RepCL.cons rfl (RepCL.cons rfl RepCL.nil)) (fun y hy => by simp [bytesV] at hy; subst hy; rfl)
      (by simp) (by simp [bytesV]) (by simp) (fun j v hv => by rw [World.cell?_alloc_new]; simpa [flat, Value.cells] using hv) (fun j hj => ⟨fun hlt => by simp [bytesV] at hj; omega, World.frozen?_alloc_new w2 _ 5 j⟩) (fun j => World.frozen?_alloc_new w2 _ 5 j)
    have hi3 := go3.inv
    have hgs : Rep φ3 (.row (some ⟨w2.heap.size, 0, none⟩) 2 :: g2) (.buf 1 false (bytesV [0, 0]) :: [.cells x.cells]) (.gs 1 2) (.slice (some ⟨w2.heap.size, 0, none⟩) 2 2) :=
      ⟨1, false, bytesV [0, 0], some ⟨w2.heap.size, 0, none⟩, 2, rfl, by rw [← hlen2]; exact look_cons_self _ _, by simp [bytesV], fun _ => rfl, .inr ⟨by simp, ⟨w2.heap.size, 0, none⟩, 2, rfl, Nat.le_refl _, by rw [List.take_of_length_le (by simp [bytesV])]; exact hels3⟩⟩
    have go4 := hi3.push [.gs 1 2] [.slice (some ⟨w2.heap.size, 0, none⟩) 2 2] 61 (RepL.cons hgs RepL.nil) (fun v hv => by simp at hv; subst hv; rfl)
    have e4 : (w2.alloc (.cells #[.int .u8 0, .int .u8 0] 5)).heap.size = w2.heap.size + 1 := by simp
    have hi4 := go4.inv
    have hg4 := (hg2.ext go3.ext).ext go4.ext
    have hp1 := go4.rep hi3 (go3.rep hi2 (hv2.2.2 1 1 rfl))
    have hp1 := h31 ▸ hp1
    have hl3 : ((GO.row (some ⟨w2.heap.size, 0, none⟩) 2) :: g2).length = 2 := by simp [hlen2]
    have hv4 := slotsB (φ := φ3) (g := .obj (w2.alloc (.cells #[.int .u8 0, .int .u8 0] 5)).heap.size :: .row (some ⟨w2.heap.size, 0, none⟩) 2 :: g2) (m := mW x [0, 0]) (p1 := .ptr 0 0) (p4 := .ptr 2 0) hz3 hd3 hp1
      ⟨(w2.alloc (.cells #[.int .u8 0, .int .u8 0] 5)).heap.size, by rw [← hl3]; exact look_cons_self _ _, by rw [e4]; exact h34⟩
    have hw := valid_weight x hvx
    have hbig := enc_small x hvx
    have hel := encB_len x
    have hbl := bodyB_len x
    have hbody : bodyB x = beB x.op 1 ++ ((fieldsOf x.op).getD []).flatMap (fieldB x) := rfl
    have hb1 : (beB x.op 1).length = 1 := beB_len _ _
    refine ex_then follows hM kR4 (eR4 x [0, 0] (by simp)) (Nat.zero_le _) (closed_zero _) hi4 hg4 hv4 fun a5 w5 φ5 g5 go5 hv5 => ?_
    have hg5 := hg4.ext go5.ext
    obtain ⟨u8, u9, u10, eL⟩ := eL5 x ([0, 0] ++ beB x.op 1) hw (by simp only [List.length_append, List.length_cons, List.length_nil, hb1]; omega)
    rw [List.append_assoc, ← hbody] at eL
    refine ex_then follows hM kL5 eL (Nat.zero_le _) (closed_zero _) go5.inv hg5 hv5 fun a6 w6 φ6 g6 go6 hv6 => ?_
    have hg6 := hg5.ext go6.ext
    have hbs : ([0, 0] ++ bodyB x : List UInt8) = 0 :: 0 :: bodyB x := rfl
    rw [hbs] at hv6 go6
    refine ex_then follows hM kR10 (eR10 x (0 :: 0 :: bodyB x) (by simp only [List.length_cons]; omega) u8 u9 u10) (Nat.zero_le _) (closed_zero _) go6.inv hg6 hv6 fun a7 w7 φ7 g7 go7 hv7 => ?_
    have hg7 := hg6.ext go7.ext
    refine ex_then follows hM kC11 (eC11 x (0 :: 0 :: bodyB x) _ (by simp only [List.length_cons]; omega) u8 u9 u10) (Nat.zero_le _) (closed_zero _) go7.inv hg7 hv7 fun a8 w8 φ8 g8 go8 hv8 => ?_
    have hi8 := go8.inv
    obtain ⟨wb, cvs, k1, k2, k3, k4, k5⟩ := hi8.cells 2 _ rfl
    obtain ⟨cs, r, rfl, hcs, hr0⟩ := k2
    obtain rfl : r = [] := hr0
    obtain ⟨ra, rc, q1, q2⟩ := hi8.rows 1 1 false (bytesV (0 :: 0 :: bodyB x)) rfl
    obtain ⟨sz', born', xs', ra', rc', p1, p2, p3, p4, p5⟩ := hcs
    have p1 : some (O.buf 1 false (bytesV (0 :: 0 :: bodyB x))) = some (.buf sz' born' xs') := p1
    cases p1
    rw [q1] at p2; cases p2
    have hcs' := p4 (by rw [bytesV_len])
    rcases q2 with ⟨_, _, _, hb⟩ | ⟨_, rb, rfl, hrb, hrb', hcap, hels, hsp, hfz⟩
    · cases hb
    have hown := hi8.own 2 wb k1
    have hne : wb ≠ rb := fun e => by have := hi8.apart 2 1 _ _ wb k1 q1 rfl (by simp [GO.blk, e]); omega
    obtain ⟨wb', m1, m2⟩ := hv8.2.2 4 4 rfl
    rw [k1] at m1; cases m1
    have hn7 := rep_int (hv8.2.2 7 6 rfl)
    have hcell := els_bytes hels hi8.known
    have hw0 : w8.cell? ⟨wb, 0, none⟩ = some (.slice (some ⟨rb, 0, none⟩) (0 :: 0 :: bodyB x).length rc) := by rw [← hcs']; exact k4 0 _ rfl
    have hl8 : (bytesV (0 :: 0 :: bodyB x)).length = (bodyB x).length + 2 := by rw [bytesV_len]; rfl
    refine wp_seq (reg13' hv8.1 hv8.2.1 m2 hn7 hw0 (by simp) (hcell 0 0 rfl) (hfz 0) (hcell 1 0 rfl) (hfz 1) fun a9 hz9 hd9 h94 => ?_)
    change (Code.seq cR14 _).wp _ _ _ _
    -- begun anew
    have hB0 := byteAt_nat (((bodyB x).length + 4 : Nat) : Int) 256
    have hB1 := byteAt_nat (((bodyB x).length + 4 : Nat) : Int) 1
    have e2 : headB x = byteAt ((bodyB x).length + 4 : Nat) 256 :: byteAt ((bodyB x).length + 4 : Nat) 1 :: bodyB x := by
      show beB (((bodyB x).length + 4 : Nat) : Int) 2 ++ bodyB x = _
      rw [beB_2]; rfl
    have hhl := headB_len x
    have ev0 : (((0 :: 0 :: bodyB x).length + 2 : Nat) : Int) / 256 % 256 = ((byteAt (((bodyB x).length + 4 : Nat) : Int) 256).toNat : Int) := by rw [hB0]; rfl
    have ev1 : (((0 :: 0 :: bodyB x).length + 2 : Nat) : Int) % 256 = ((byteAt (((bodyB x).length + 4 : Nat) : Int) 1).toNat : Int) := by rw [hB1, Int.ediv_one]; rfl
    rw [ev0, ev1]
    generalize byteAt (((bodyB x).length + 4 : Nat) : Int) 256 = c0 at *
    generalize byteAt (((bodyB x).length + 4 : Nat) : Int) 1 = c1 at *
    have hW : ((w8.setCell ⟨rb, 0, none⟩ (.int .u8 c0.toNat)).setCell ⟨rb, 1, none⟩ (.int .u8 c1.toNat)).drew = (w8.setCells rb 0 [.int .u8 c0.toNat, .int .u8 c1.toNat]).drew := rfl
    rw [hW]
    generalize hw9 : (w8.setCells rb 0 [.int .u8 c0.toNat, .int .u8 c1.toNat]).drew = w9
    have hthere : ∀ j, j < 2 → (w8.cell? ⟨rb, 0 + j, none⟩).isSome = true := fun j hj => by
      rw [Nat.zero_add]
      match j, hj with
      | 0, _ => rw [hcell 0 0 rfl]; rfl
      | 1, _ => rw [hcell 1 0 rfl]; rfl
    have hin : ∀ j (hj : j < 2), w9.cell? ⟨rb, 0 + j, none⟩ = some ([Value.int .u8 c0.toNat, Value.int .u8 c1.toNat][j]) := fun j hj => by rw [← hw9]; exact World.cell?_setCells_in rb [Value.int .u8 c0.toNat, Value.int .u8 c1.toNat] 0 w8 hthere j hj
    have hout : ∀ a : Addr, (a.block = rb → a.spot = none → 2 ≤ a.off) → w9.cell? a = w8.cell? a := fun a ha => by rw [← hw9]; exact World.cell?_setCells_out rb _ 0 w8 a (fun h1 h2 => .inr (by simpa using ha h1 h2))
    have hfr : ∀ a : Addr, w9.frozen? a = w8.frozen? a := fun a => by rw [← hw9]; exact World.frozen?_setCells _ _ _ _ _
    have hsz : w9.heap.size = w8.heap.size := by rw [← hw9]; exact setCells_size _ _ _ _
    have hb9 : Below w.heap.size w w9 := by rw [← hw9]; exact (below_setCells hi8.base hrb 0 _).drew
    obtain ⟨φ9, hi9, hx9⟩ := inv_anew (bs := headB x) (cap := rc) hi.known hb9 (by rw [e2]; simp) hown.1 (by rw [hsz]; exact hown.2.1) hrb (by rw [hsz]; exact hrb') hne (by rw [hhl]; omega)
      (by rw [hout _ (fun h => absurd h hne), hw0, hhl]; rfl) (fun j => by rw [hfr]; exact k5 j)
      (fun j c hj => by
        rw [e2] at hj
        match j, hj with
        | 0, hj => cases hj; exact hin 0 (by omega)
        | 1, hj => cases hj; exact hin 1 (by omega)
        | j + 2, hj =>
          rw [hout _ (fun _ _ => by simp)]
          exact hcell (j + 2) c (by simpa using hj))
      (fun j h1 h2 => by
        rw [hhl] at h1
        rw [hout _ (fun _ _ => by show 2 ≤ j; omega)]
        exact (hsp j (by omega)).1 (by omega))
      (fun j => by rw [hfr]; exact hfz j)
    have hg9 := hg.ext hx9
    have hv9 := slotsB (φ := φ9) (g := [.obj wb, .row (some ⟨rb, 0, none⟩) rc]) (m := mV (headB x)) (p1 := .undef) (p4 := .ptr 1 0) hz9 hd9 rep_undef ⟨wb, rfl, h94⟩
    refine ex_then follows hM kR14 (eR14 (headB x) (by omega)) (Nat.zero_le _) (closed_zero _) hi9 hg9 hv9 fun a10 w10 φ10 g10 go10 hv10 => ?_
    refine ex_then follows hM kR15 (eR15 _) (Nat.zero_le _) (closed_zero _) go10.inv (hg9.ext go10.ext) hv10 fun a11 w11 φ11 g11 go11 hv11 => ?_
    refine wp_ret ?_
    have henc : headB x ++ beB (sumB (headB x)) 4 = encB x := rfl
    rw [henc] at hv11 go11
    have hi11 := go11.inv
    refine ⟨hv11.2.1, _, results12 a11 w11, hi11.base, a11.tmps.getD 2 undef, ?_, ?_⟩
    · have h3 : a11.tmps.getD 3 undef = .int .i64 0 := rep_int (hv11.2.2 3 3 rfl)
      rw [encode_valid x hvx, h3]
    · rw [encode_valid x hvx]
      obtain ⟨ra, rc', q1, q2⟩ := hi11.rows 0 1 false (bytesV (encB x)) rfl
      obtain ⟨sz', born', xs', ra', rc'', p1, p2, p3, p4, p5⟩ := hv11.2.2 2 2 rfl
      have p1 : some (O.buf 1 false (bytesV (encB x))) = some (.buf sz' born' xs') := p1
      cases p1
      rw [q1] at p2; cases p2
      have hcs' := p4 (by rw [bytesV_len])
      rcases q2 with ⟨_, _, _, hb⟩ | ⟨_, rb', rfl, hrb, hrb', hcap, hels, hsp, hfz⟩
      · cases hb
      exact ⟨rb', _, hcs', by rw [bytesV_len] at hcap; exact hcap, hrb, hrb', els_bytes hels hi11.known, hfz, fun j h1 h2 => (hsp j (by rw [bytesV_len]; omega)).1 (by omega)⟩
end Go.Vm.Redo
-- RM5: The pure machine with redo.Encode is the program's.
set_option maxRecDepth 100000
namespace Go.Vm
open Go Go.RowKit
/-- A function that builds new things alone, of any number of results. -/
theorem prim_ok_many {P : Program} {w0 : World} {A : Ann} {f : FuncId} {p : List V → Mem → Option Out} (hE : Entered P f)
    (h : ∀ args m out, p args m = some out → ∃ vs, out = .ret vs m ∧ ∀ φ g w (cargs : List Value), Inv w0 φ g m w → Globs A φ → RepL φ g m args cargs →
      Calls P f cargs.toArray w fun e w' => Below w.heap.size w w' ∧ ∃ cv, e = .returned cv ∧ Rep (know φ w w' fun _ => true) g m (retVal vs) cv) :
    CFok P w0 A (fun f' => if f' = f then p else fun _ _ => none) ∧ CFpure (fun f' => if f' = f then p else fun _ _ => none) := by
  constructor
  · intro f' args m out ho
    dsimp only at ho
    split at ho
    · rename_i e; subst e
      obtain ⟨v, rfl, hv⟩ := h args m out ho
      refine ⟨hE, fun φ g w cargs hi hg hr => (hv φ g w cargs hi hg hr).mono fun e w' hq => ?_⟩
      obtain ⟨hb, cv, rfl, hrep⟩ := hq
      exact ⟨cv, _, g, rfl, hi.knowGoes hb _, hrep⟩
    · cases ho
  · intro f' args m out ho
    dsimp only at ho
    split at ho
    · rename_i e; subst e
      obtain ⟨v, rfl, hv⟩ := h args m out ho
      exact ⟨Nat.le_refl _, fun B _ hc => hc⟩
    · cases ho
end Go.Vm
namespace Go.Vm.Redo
open Go Go.Vm Go.Proofs Go.RowKit

theorem ent_encode : Entered Tryz.prog F.redo_Encode := ⟨_, Tryz.func12, by kernel_rfl, by kernel_rfl⟩
theorem rep_bytes {φ : Phi} {w w' : World} {blk cap : Nat} {bs : List UInt8} (hcap : bs.length ≤ cap) (hblk : w.heap.size ≤ blk) (hc : ∀ j (c : UInt8), bs[j]? = some c → w'.cell? ⟨blk, j, none⟩ = some (.int .u8 c.toNat)) {g : List GO} {m : Mem} :
    Rep (know φ w w' fun _ => true) g m (.sl false 1 (bytesV bs)) (.slice (some ⟨blk, 0, none⟩) bs.length cap) := by
  have hl : (bytesV bs).length = bs.length := bytesV_len bs
  have := sl_rep (φ := know φ w w' fun _ => true) (g := g) (m := m) (sz := 1) (xs := bytesV bs) (a := ⟨blk, 0, none⟩) (cap := cap) (by omega) ?_
  · rw [hl] at this; exact this
  · refine ⟨bs.map fun c => .int .u8 c.toNat, ?_, fun x hx => ?_, fun j v hv => ?_⟩
    · clear hcap hc hl
      generalize know φ w w' (fun _ => true) = ψ
      induction bs with
      | nil => exact RepCL.nil
      | cons c l ih => exact RepCL.cons rfl ih
    · obtain ⟨c, _, rfl⟩ := List.mem_map.1 hx; rfl
    · have hfl : ∀ l : List UInt8, flat (l.map fun c => Value.int .u8 c.toNat) = l.map fun c => Value.int .u8 c.toNat := fun l => by
        induction l with
        | nil => rfl
        | cons c l ih => simp only [flat, List.map_cons, List.flatMap_cons] at ih ⊢; rw [ih]; rfl
      rw [hfl, List.getElem?_map] at hv
      cases hq : bs[j]? with
      | none => rw [hq] at hv; cases hv
      | some c =>
        rw [hq] at hv; cases hv
        rw [add_mk, Nat.zero_add, know_new (by simpa using hblk) rfl]
        exact hc j c hq
theorem ok_encode {w0 : World} (hL : Laid w0) : CFok Tryz.prog w0 ann (fun f' => if f' = F.redo_Encode then pEnc else fun _ _ => none) ∧ CFpure (fun f' => if f' = F.redo_Encode then pEnc else fun _ _ => none) := by
  refine prim_ok_many ent_encode fun args m out ho => ?_
  unfold pEnc at ho
  split at ho
  · rename_i h
    cases ho
    obtain ⟨e1, hfit⟩ := h.choose_spec
    generalize h.choose = x at *
    subst e1
    refine ⟨_, rfl, fun φ g w cargs hi hg hr => (encode_calls hL hi hg x hfit hr).mono fun e w' hq => ?_⟩
    obtain ⟨hb, cs, rfl, hm⟩ := hq
    refine ⟨hb, _, rfl, [cs, .int .i64 (encode x).2], rfl, RepL.cons ?_ (RepL.cons rfl RepL.nil)⟩
    generalize (encode x).1 = o at hm ⊢
    cases o with
    | none => simp only at hm; subst hm; exact .inl ⟨rfl, rfl, rfl⟩
    | some b =>
      obtain ⟨blk, cap, rfl, h1, h2, _, h3, _⟩ := hm
      exact rep_bytes h1 h2 h3
  · cases ho
theorem mach_ok1 {w0 : World} (hL : Laid w0) : MachOK Tryz.prog w0 ann MM1 := by
  refine ⟨fun f F h => h, fun f p h => ?_⟩
  change primR1 f = some p at h
  unfold primR1 at h
  split at h
  · rename_i e; cases h; subst e; exact ok_encode hL
  · exact (mach_ok hL).prims f p h
end Go.Vm.Redo
-- VmRow: The wrap of a row, with what it lists and with the world's shape.
namespace Go.Vm
open Go
variable {H : Type} {enc : TypeId × Value → H}

theorem returns_and_shaped {a : Assume} {C : Checked} {os : Os} {f : FuncId} {fn : Func} {s : ChangeSpec} {conds : List PathCond} {apart fresh handsOn again : Bool} {X : World → Array Value → Prop}
    (hX : ∀ (w w' : World) (args : Array Value), w.heap = w'.heap → X w args → X w' args)
    (own : ownKnob C.prog.godebug = none) (started : os.Started) (noInit : C.prog.inits.idxOf? f = none) (hfn : C.prog.funcs[f]? = some fn)
    (witness : ∃ (w : World) (tape : Tape) (i : Input), w.os = os ∧ (w.forCall tape i).Shaped C.prog ∧ i.vars = [] ∧ Input.okWide C.prog (w.forCall tape i) .any w.heap.size f i ∧
      ((s.pre enc C.prog fn conds apart (w.forCall tape i).memory i.args ∧ X (w.forCall tape i).memory i.args) ∧ sizedMet enc C.prog fn (OpenSpec.ofChange s) apart (w.forCall tape i).memory i.args) ∧ a.holds C.prog (lone (Frame.enter C.prog f i.args .normal) [] (w.forCall tape i)))
    (contract : ∀ (W : World) (base : Nat) (args : Array Value) (ds gs : List (DataW H)) (before : List MemPlace),
      (∀ (j : Nat) t v, fn.params[j]? = some t → args[j]? = some v → Value.okWide C.prog W .any base t v) →
      DataW.Whole enc C.prog fn.params.toList s.vars apart W args.toList ds gs before →
      conds.all (PathCond.test C.prog ⟨fn.params.toList, ds, s.plain.varTypes C.prog, gs⟩) = true →
      (DataW.weightsEach C.prog (fn.params.toList ++ s.plain.varTypes C.prog) (ds ++ gs)).all (· ≤ reachBytes) = true → X W args → W.ShapedOpen C.prog →
      a.holds C.prog (lone (Frame.enter C.prog f args .normal) [] W) →
      Calls C.prog f args W fun e W' => ∃ v, e = .returned v ∧ s.post enc C.prog fn apart fresh handsOn again W args v W') :
    ReturnsInHanded a C os f .any (fun w args => (s.pre enc C.prog fn conds apart w args ∧ X w args) ∧ sizedMet enc C.prog fn (OpenSpec.ofChange s) apart w args) (s.post enc C.prog fn apart fresh handsOn again) := by
  refine returnsInHanded_of_calls own started noInit witness ?_
  intro w tape i _ hsh _ hok hpre hholds
  obtain ⟨_, _, _, fn', hfn', _, _, _, _, hval⟩ := hok
  have e : fn' = fn := Option.some.inj (hfn'.symm.trans hfn)
  subst e
  obtain ⟨⟨⟨ds, gs, before, hw, hc⟩, hx⟩, hz⟩ := hpre
  have hw' := DataW.Whole.of_heap (w' := w.forCall tape i) (by rfl) hw
  refine (contract (w.forCall tape i) w.heap.size i.args ds gs before hval hw' hc (hz.weights hw) (hX _ _ _ (by rfl) hx) hsh hholds).mono fun e W' ⟨v, he, hp⟩ => ?_
  subst he
  exact ChangeSpec.post_blind hp
end Go.Vm
-- RO3: What all rows of this seat need: the types of what comes in.
set_option maxRecDepth 100000
namespace Go.Vm.Redo
open Go Go.Vm Go.Proofs Go.RowKit
def Ts : List TypeId := [26, 28, 30, 3, 22, 24, 52, 54, 9, 5]
theorem laidOut : laidOutB Tryz.prog = true := by kernel_rfl
theorem okTs : okTypes Tryz.prog Ts = true := by kernel_rfl
theorem ok3 {t : TypeId} (h : (Ts.contains t && Tryz.prog.readableRec t && decide (t < Tryz.prog.types.size)) = true) : t ∈ Ts ∧ Tryz.prog.readableRec t = true ∧ t < Tryz.prog.types.size := by
  simp only [Bool.and_eq_true, decide_eq_true_eq] at h
  exact ⟨by simpa using h.1.1, h.1.2, h.2⟩
end Go.Vm.Redo
