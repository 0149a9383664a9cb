/- Part 22 of the ground under the rows: RedoBroken: redo.Encode as a function whose result goes on as a row; the pure machine's pieces. -/
import Derived.Test.YtcifkahbdimkbaaGreatDoorM21
set_option linter.unusedSimpArgs false
set_option linter.unusedVariables false
-- RB1: RedoBroken: redo.Encode as a function whose result goes on as a row; the pure machine's pieces.
set_option maxRecDepth 100000
namespace Go.Vm
open Go Go.RowKit
section
variable {w0 : World} {φ : Phi} {g : List GO} {m : Mem} {w w' : World}
/-- A row that grows, in some new block. -/
theorem Inv.pushRowAt (hi : Inv w0 φ g m w) (hb : Below w.heap.size w w') {blk : Nat} (hblk : w.heap.size ≤ blk) (hlt : blk < w'.heap.size) (born : Bool) (sz cap : Nat) (xs : List V) (evs : List Value) (hr : RepCL φ xs evs) (hf : ∀ x ∈ xs, x.fits sz = true)
    (hcap : xs.length ≤ cap) (hborn : ¬ (born = true ∧ xs = [])) (hcell : ∀ j v, (flat evs)[j]? = some v → w'.cell? ⟨blk, j, none⟩ = some v)
    (hspare : ∀ j, xs.length * sz ≤ j → (j < cap * sz → (w'.cell? ⟨blk, j, none⟩).isSome = true)) (hfz : ∀ j, w'.frozen? ⟨blk, j, none⟩ = false) :
    ∃ φ', Goes w0 φ g m φ' (.row (some ⟨blk, 0, none⟩) cap :: g) (.buf sz born xs :: m) w' ∧ Els φ' ⟨blk, 0, none⟩ sz xs := by
  let K : Addr → Bool := fun a => a.block == blk && a.spot.isNone && decide (a.off < xs.length * sz)
  have hg := hi.knowGoes hb K
  have hels : Els (Vm.know φ w w' K) ⟨blk, 0, none⟩ sz xs := by
    refine ⟨evs, RepCL.ext hg.ext _ _ hr, hf, fun j v hv => ?_⟩
    have hj : j < xs.length * sz := by
      have := (List.getElem?_eq_some_iff.1 hv).1
      rw [flat_length hr hf] at this; exact this
    rw [add_mk, Nat.zero_add, know_new (by simpa using hblk) (by simp [K, hj])]
    exact hcell j v hv
  refine ⟨_, hg.trans (hg.inv.cons _ _ (fun cs' e => by cases e) (fun _ _ e => by cases e) (fun _ _ e => by cases e) (fun sz' born' xs' e => ?_) (fun blk e => by cases e) (fun b hb' r y hy e => ?_)) (Nat.le_refl _), hels⟩
  · cases e
    refine ⟨_, _, rfl, .inr ⟨hborn, blk, rfl, Nat.le_trans hi.size_le hblk, hlt, hcap, hels, fun j hj => ⟨hspare j hj, hfz j, ?_⟩, hfz⟩⟩
    have : ¬ (j < xs.length * sz) := by omega
    have h2 : ¬ (blk < w.heap.size) := by omega
    simp [Vm.know, K, this, h2]
  · simp [GO.blk] at hb'
    have := (hi.blk_lt hy e).2
    omega
end
end Go.Vm
namespace Go.Vm.Redo
open Go Go.Vm Go.Proofs Go.RowKit

open Classical in
/-- redo.Encode, its bytes going on as a row. -/
noncomputable def pEncG (args : List V) (m : Mem) : Option Out := if h : ∃ x : Rec, args = [x.toV] ∧ x.Fit then
  match (encode h.choose).1 with
  | none => some (.ret [.sl true 0 [], .int .i64 (encode h.choose).2] m)
  | some b => some (.ret [.gs m.length b.length, .int .i64 (encode h.choose).2] (.buf 1 false (bytesV b) :: m)) else none
noncomputable def MM2 : Machine' := ⟨funOf Go.Proofs.Tryz.prog ann, fun f => if f = F.redo_Encode then some pEncG else primR f⟩

theorem encode_some (x : Rec) (b : List UInt8) (h : (encode x).1 = some b) : b = encB x ∧ validR x = true ∧ (encode x).2 = 0 := by
  unfold encode at h ⊢
  split at h
  · rename_i hv
    split at h
    · cases h
    · rename_i hl
      cases h
      exact ⟨rfl, hv, by rw [if_pos hv, if_neg hl]⟩
  · cases h
theorem ok_encodeG {w0 : World} (hL : Laid w0) : CFok Tryz.prog w0 ann (fun f' => if f' = F.redo_Encode then pEncG else fun _ _ => none) ∧ CFpure (fun f' => if f' = F.redo_Encode then pEncG else fun _ _ => none) := by
  constructor
  · intro f args m out ho
    dsimp only at ho
    split at ho
    · rename_i e; subst e
      unfold pEncG at ho
      split at ho
      · rename_i h
        obtain ⟨e1, hfit⟩ := h.choose_spec
        generalize h.choose = x at *
        subst e1
        refine ⟨ent_encode, fun φ g w cargs hi hg hr => (encode_calls hL hi hg x hfit hr).mono fun e w' hq => ?_⟩
        obtain ⟨hb, cs, rfl, hm⟩ := hq
        cases ho1 : (encode x).1 with
        | none =>
          rw [ho1] at ho hm
          cases ho
          simp only at hm
          subst hm
          exact ⟨_, _, g, rfl, hi.knowGoes hb (fun _ => true), [.slice none 0 0, .int .i64 (encode x).2], rfl, RepL.cons (.inl ⟨rfl, rfl, rfl⟩) (RepL.cons rfl RepL.nil)⟩
        | some b =>
          rw [ho1] at ho hm
          cases ho
          obtain ⟨blk, cap, rfl, h1, h2, h2', h3, h4, h5⟩ := hm
          have hbl : (bytesV b).length = b.length := bytesV_len b
          have hne : b ≠ [] := fun e => by
            have := (encode_some x b ho1).1
            have h7 := encB_seven x
            rw [← this, e] at h7; simp at h7
          have hrc : ∀ ψ : Phi, RepCL ψ (bytesV b) (b.map fun c => Value.int .u8 c.toNat) := fun ψ => by
            clear h1 h3 h5 hbl hne hr ho1
            induction b with
            | nil => exact RepCL.nil
            | cons c l ih => exact RepCL.cons rfl ih
          have hfl : ∀ l : List UInt8, flat (l.map fun c => Value.int .u8 c.toNat) = l.map fun c => Value.int .u8 c.toNat := fun l => by
            induction l with
            | nil => rfl
            | cons c l ih => simp only [flat, List.map_cons, List.flatMap_cons] at ih ⊢; rw [ih]; rfl
          obtain ⟨φ', hgo, hels⟩ := hi.pushRowAt hb h2 h2' false 1 cap (bytesV b) (b.map fun c => Value.int .u8 c.toNat) (hrc φ) (fun y hy => by obtain ⟨c, _, rfl⟩ := List.mem_map.1 hy; rfl) (by omega) (by simp)
            (fun j v hv => by
              rw [hfl, List.getElem?_map] at hv
              cases hq : b[j]? with
              | none => rw [hq] at hv; cases hv
              | some c => rw [hq] at hv; cases hv; exact h3 j c hq) (fun j hj hlt => h5 j (by omega) (by omega)) h4
          refine ⟨_, φ', _, rfl, hgo, [.slice (some ⟨blk, 0, none⟩) b.length cap, .int .i64 (encode x).2], rfl, RepL.cons ?_ (RepL.cons rfl RepL.nil)⟩
          refine ⟨1, false, bytesV b, some ⟨blk, 0, none⟩, cap, look_cons_self _ _, by rw [← hi.len]; exact look_cons_self _ _, by omega, fun _ => rfl, .inr ⟨by simp, ⟨blk, 0, none⟩, cap, rfl, h1, ?_⟩⟩
          rw [List.take_of_length_le (by omega)]
          exact hels
      · cases ho
    · cases ho
  · intro f args m out ho
    dsimp only at ho
    split at ho
    · unfold pEncG at ho
      split at ho
      · split at ho
        · cases ho; exact ⟨Nat.le_refl _, fun B _ hc => hc⟩
        · cases ho
          refine ⟨by simp [Out.mem], fun B hB hc => ?_⟩
          intro r hr cs hl
          have : r ≠ m.length := by omega
          simp only [Out.mem] at hl
          rw [look_cons_ne this] at hl
          exact hc r hr cs hl
      · cases ho
    · cases ho
theorem mach_ok2 {w0 : World} (hL : Laid w0) : MachOK Tryz.prog w0 ann MM2 := by
  refine ⟨fun f F h => h, fun f p h => ?_⟩
  change (if f = F.redo_Encode then some pEncG else primR f) = some p at h
  split at h
  · rename_i e; cases h; subst e; exact ok_encodeG hL
  · exact (mach_ok hL).prims f p h
theorem run_encodeG (x : Rec) (hx : x.Fit) (m : Mem) : callL MM2 F.redo_Encode [x.toV] m = match (encode x).1 with
    | none => some (.ret [.sl true 0 [], .int .i64 (encode x).2] m)
    | some b => some (.ret [.gs m.length b.length, .int .i64 (encode x).2] (.buf 1 false (bytesV b) :: m)) := by
  rw [call_prim (p := pEncG) (hp := rfl)]
  unfold pEncG
  have h : ∃ y : Rec, [x.toV] = [y.toV] ∧ y.Fit := ⟨x, rfl, hx⟩
  rw [dif_pos h]
  have e : h.choose = x := by
    exact (Rec.toV_inj (List.cons.inj h.choose_spec.1).1).symm
  rw [e]
end Go.Vm.Redo
-- RB2: RedoBroken: its code, piece by piece.
set_option maxRecDepth 100000
namespace Go.Vm.Redo
open Go Go.Vm Go.Proofs Go.RowKit

noncomputable def bodyB5 : Code := (Tryz.f5.body).getD .skip
noncomputable def bR0 : Code := lftC bodyB5
noncomputable def bC1 : Code := lftC (rgtC bodyB5)
noncomputable def bR3 : Code := lftC (rgtC (rgtC bodyB5))
noncomputable def bC4 : Code := lftC (rgtC (rgtC (rgtC bodyB5)))
noncomputable def bR6 : Code := lftC (rgtC (rgtC (rgtC (rgtC bodyB5))))
noncomputable def bR7 : Code := lftC (rgtC (rgtC (rgtC (rgtC (rgtC bodyB5)))))
noncomputable def bR8 : Code := lftC (rgtC (rgtC (rgtC (rgtC (rgtC (rgtC bodyB5))))))
noncomputable def bR9 : Code := lftC (rgtC (rgtC (rgtC (rgtC (rgtC (rgtC (rgtC bodyB5)))))))
theorem body5 : Tryz.f5.body = some (.seq bR0 (.seq bC1 (.seq bR3 (.seq bC4 (.seq bR6 (.seq bR7 (.seq bR8 (.seq bR9 .ret)))))))) := by kernel_rfl

def F5 : FAnn := { slots := [0, 1, 2, 3, 6, 7, 8, 9, 12, 16, 24], n := 55 }
def vB0 : VC := .reg [⟨some 3, .box (.v 0) [], none⟩, ⟨some 4, .mov (.c (.bool false)), none⟩]
def vB1 : VC := .seq (.reg [⟨none, .load (some 9) (.v 3), none⟩, ⟨none, .mksl 9 [(.l 0)], none⟩, ⟨none, .call F.ref20_Few [(.l 0)], none⟩, ⟨some 9, .not (.l 0), none⟩])
  (.cond (.v 9) (.seq (.reg [⟨none, .call F.law20_awake [], none⟩, ⟨some 4, .mov (.l 0), none⟩]) .ret) .skip)
def vB3 : VC := .reg [⟨none, .load (some 9) (.v 3), none⟩, ⟨none, .call F.redo_Encode [(.l 0)], none⟩, ⟨none, .mov (.l 0), none⟩, ⟨none, .ext (.l 0) 0, none⟩, ⟨none, .ext (.l 1) 1, none⟩, ⟨some 5, .mov (.l 1), none⟩, ⟨some 6, .mov (.l 1), none⟩]
def vB4 : VC := .seq (.reg [⟨none, .mov (.v 6), none⟩, ⟨some 10, .bin .neq (.l 0) (.c (.int .i64 0)), none⟩])
  (.cond (.v 10) (.seq (.reg [⟨none, .call F.law20_awake [], none⟩, ⟨some 4, .mov (.l 0), none⟩]) .ret) .skip)
def vB6 : VC := .reg [⟨none, .mov (.v 1), none⟩, ⟨none, .conv .u64 (.l 0), none⟩, ⟨none, .mov (.v 5), none⟩, ⟨none, .len false (.l 0), none⟩, ⟨none, .bin .sub (.l 0) (.c (.int .i64 2)), none⟩, ⟨none, .conv .u64 (.l 0), none⟩, ⟨none, .bin .rem (.l 4) (.l 0), none⟩, ⟨none, .conv .i64 (.l 0), none⟩, ⟨none, .bin .add (.c (.int .i64 2)) (.l 0), none⟩, ⟨some 7, .mov (.l 0), none⟩]
def vB8 : VC := .reg [⟨none, .mov (.v 5), none⟩, ⟨none, .call F.redo_Decode [(.l 0)], none⟩, ⟨none, .mov (.l 0), none⟩, ⟨none, .ext (.l 0) 0, none⟩, ⟨none, .ext (.l 1) 1, none⟩, ⟨none, .ext (.l 2) 2, none⟩, ⟨none, .alloc [.int .i64 (0), .int .i64 (0), .str [], .str [], .int .i64 (0), .sl true 0 [], .int .i64 (0), .str [], .int .i64 (0)] [], none⟩, ⟨none, .store 9 (.l 0) (.l 3), none⟩, ⟨none, .mov (.l 3), none⟩, ⟨some 8, .mov (.l 3), none⟩]
def vB9 : VC := .reg [⟨none, .mov (.v 8), none⟩, ⟨none, .bin .eql (.l 0) (.c (.int .i64 30)), none⟩, ⟨none, .mov (.l 0), none⟩, ⟨none, .call F.law20_awake [], some (0, true)⟩, ⟨none, .pick (.l 1) (.l 0) (.c (.bool false)), none⟩, ⟨some 4, .mov (.l 0), none⟩]
theorem jB0 : codeOf Tryz.prog ann F5 bR0 [] = some (vB0, []) := by kernel_rfl
theorem jB1 : codeOf Tryz.prog ann F5 bC1 [] = some (vB1, []) := by kernel_rfl
theorem jB3 : codeOf Tryz.prog ann F5 bR3 [] = some (vB3, []) := by kernel_rfl
theorem jB4 : codeOf Tryz.prog ann F5 bC4 [] = some (vB4, []) := by kernel_rfl
theorem jB6 : codeOf Tryz.prog ann F5 bR6 [] = some (vB6, []) := by kernel_rfl
theorem jB8 : codeOf Tryz.prog ann F5 bR8 [] = some (vB8, []) := by kernel_rfl
theorem jB9 : codeOf Tryz.prog ann F5 bR9 [] = some (vB9, []) := by kernel_rfl

theorem xB0 (x : Rec) (at0 more : Int) : ex (callL MM1) 0 vB0 (x.toV :: .int .i64 at0 :: .int .u8 more :: List.replicate 8 .undef) [] =
    some (.nrm [x.toV, .int .i64 at0, .int .u8 more, .ptr 0 0, .bool false, .undef, .undef, .undef, .undef, .undef, .undef] [.cells x.cells]) := by
  unfold Rec.toV
  simp only [Rec.cells]
  simp [vB0, List.replicate]
theorem xB1 (x : Rec) (hx : x.Fit) (at0 more : Int) : ex (callL MM1) 0 vB1 [x.toV, .int .i64 at0, .int .u8 more, .ptr 0 0, .bool false, .undef, .undef, .undef, .undef, .undef, .undef] [.cells x.cells] =
    some (if few [x] then .nrm [x.toV, .int .i64 at0, .int .u8 more, .ptr 0 0, .bool false, .undef, .undef, .undef, .undef, .bool false, .undef] [.cells x.cells]
      else .ret [x.toV, .int .i64 at0, .int .u8 more, .ptr 0 0, .bool true, .undef, .undef, .undef, .undef, .bool true, .undef] [.cells x.cells]) := by
  have hF := fun m => up (run_ref20_Few false 9 [x] (.inl rfl) (by simp) (by simp [hx]) m)
  have hA := run_awake
  simp only [List.map_cons, List.map_nil] at hF
  cases h : few [x] <;> simp only [h] at hF <;> simp only [Rec.toV, Rec.cells] at * <;> simp [vB1, hF, hA]
theorem xB3 (x : Rec) (hx : x.Fit) (at0 more : Int) : ex (callL MM2) 0 vB3 [x.toV, .int .i64 at0, .int .u8 more, .ptr 0 0, .bool false, .undef, .undef, .undef, .undef, .bool false, .undef] [.cells x.cells] =
    some (if validR x then .nrm [x.toV, .int .i64 at0, .int .u8 more, .ptr 0 0, .bool false, .gs 1 (encB x).length, .int .i64 0, .undef, .undef, .bool false, .undef] [.buf 1 false (bytesV (encB x)), .cells x.cells]
      else .nrm [x.toV, .int .i64 at0, .int .u8 more, .ptr 0 0, .bool false, .sl true 0 [], .int .i64 2, .undef, .undef, .bool false, .undef] [.cells x.cells]) := by
  have hE := fun m => run_encodeG x hx m
  cases h : validR x with
  | true =>
    rw [encode_valid x h] at hE
    simp only at hE
    simp only [Rec.toV, Rec.cells] at *
    simp [vB3, hE]
  | false =>
    rw [encode_invalid x h] at hE
    simp only at hE
    simp only [Rec.toV, Rec.cells] at *
    simp [vB3, hE]
theorem xB4e (x : Rec) (at0 more : Int) : ex (callL MM1) 0 vB4 [x.toV, .int .i64 at0, .int .u8 more, .ptr 0 0, .bool false, .sl true 0 [], .int .i64 2, .undef, .undef, .bool false, .undef] [.cells x.cells] =
    some (.ret [x.toV, .int .i64 at0, .int .u8 more, .ptr 0 0, .bool true, .sl true 0 [], .int .i64 2, .undef, .undef, .bool false, .bool true] [.cells x.cells]) := by
  have hA := run_awake
  simp only [Rec.toV, Rec.cells] at *
  simp [vB4, hA]
theorem xB4 (x : Rec) (v5 : V) (m : Mem) (at0 more : Int) : ex (callL MM1) 0 vB4 [x.toV, .int .i64 at0, .int .u8 more, .ptr 0 0, .bool false, v5, .int .i64 0, .undef, .undef, .bool false, .undef] m =
    some (.nrm [x.toV, .int .i64 at0, .int .u8 more, .ptr 0 0, .bool false, v5, .int .i64 0, .undef, .undef, .bool false, .bool false] m) := by
  simp [vB4]
theorem xB6 (x : Rec) (L : Nat) (h7 : 7 ≤ L) (hL : L ≤ 65537) (m : Mem) (at0 more : Int) : ∃ i : Nat, 2 ≤ i ∧ i < L ∧ ex (callL MM1) 0 vB6 [x.toV, .int .i64 at0, .int .u8 more, .ptr 0 0, .bool false, .gs 1 L, .int .i64 0, .undef, .undef, .bool false, .bool false] m =
    some (.nrm [x.toV, .int .i64 at0, .int .u8 more, .ptr 0 0, .bool false, .gs 1 L, .int .i64 0, .int .i64 i, .undef, .bool false, .bool false] m) := by
  have w1 : IntKind.i64.wrap ((L : Int) - 2) = (L : Int) - 2 := wrap64_id (by omega) (by omega)
  have hu : ∀ z : Int, IntKind.u64.wrap z = z % 18446744073709551616 := fun z => by simp [IntKind.wrap, IntKind.bits, IntKind.signed]
  have w2 : IntKind.u64.wrap ((L : Int) - 2) = (L : Int) - 2 := by rw [hu]; omega
  have hu0 : 0 ≤ IntKind.u64.wrap at0 := by rw [hu]; omega
  obtain ⟨n, hn, hnl⟩ : ∃ n : Nat, (IntKind.u64.wrap at0).tmod ((L : Int) - 2) = n ∧ n < L - 2 := by
    refine ⟨((IntKind.u64.wrap at0).tmod ((L : Int) - 2)).toNat, ?_, ?_⟩
    · rw [Int.toNat_of_nonneg (Int.tmod_nonneg _ hu0)]
    · have h1 := Int.tmod_lt_of_pos (IntKind.u64.wrap at0) (show (0 : Int) < (L : Int) - 2 by omega)
      have h2 := Int.tmod_nonneg ((L : Int) - 2) hu0
      omega
  have w3 : ¬ ((L : Int) - 2 = 0) := by omega
  have w4 : IntKind.i64.wrap (n : Int) = n := wrap64_id (by omega) (by omega)
  have w5 : IntKind.i64.wrap (2 + (n : Int)) = ((n + 2 : Nat) : Int) := by rw [wrap64_id (by omega) (by omega)]; omega
  refine ⟨n + 2, by omega, by omega, ?_⟩
  generalize hz : ((n + 2 : Nat) : Int) = z at *
  simp [vB6, w1, w2, w3, w4, w5, hn]
theorem xB8 (b : List UInt8) (hb : b.length < 4000000) (he : (decode b).2.2 = 30) : ∃ c, ex (callL MM1) 0 vB8 [.undef, .undef, .undef, .undef, .undef, .sl false 1 (bytesV b), .undef, .undef, .undef, .undef, .undef] [] =
    some (.nrm [.undef, .undef, .undef, .undef, .undef, .sl false 1 (bytesV b), .undef, .undef, .int .i64 30, .undef, .undef] [c]) := by
  have hD := fun m => up (run_redo_Decode false b hb m)
  rw [he] at hD
  generalize decode b = D at *
  obtain ⟨x, n, e⟩ := D
  refine ⟨.cells x.cells, ?_⟩
  simp only [Rec.toV, Rec.cells, rowV_nil] at *
  simp [vB8, hD]
theorem xB9 (v5 : V) (m : Mem) : ex (callL MM1) 0 vB9 [.undef, .undef, .undef, .undef, .undef, v5, .undef, .undef, .int .i64 30, .undef, .undef] m =
    some (.nrm [.undef, .undef, .undef, .undef, .bool true, v5, .undef, .undef, .int .i64 30, .undef, .undef] m) := by
  have hA := run_awake
  simp [vB9, hA]
end Go.Vm.Redo
-- RB3: RedoBroken: the region that changes a byte, by hand.
set_option maxRecDepth 100000
namespace Go.Vm.Redo
open Go Go.Vm Go.Proofs Go.RowKit

theorem lit55 (a : Act) (h : a.tmps.size = 55) : ∃ x0 x1 x2 x3 x4 x5 x6 x7 x8 x9 x10 x11 x12 x13 x14 x15 x16 x17 x18 x19 x20 x21 x22 x23 x24 x25 x26 x27 x28 x29 x30 x31 x32 x33 x34 x35 x36 x37 x38 x39 x40 x41 x42 x43 x44 x45 x46 x47 x48 x49 x50 x51 x52 x53 x54 : Value, a.tmps = #[x0, x1, x2, x3, x4, x5, x6, x7, x8, x9, x10, x11, x12, x13, x14, x15, x16, x17, x18, x19, x20, x21, x22, x23, x24, x25, x26, x27, x28, x29, x30, x31, x32, x33, x34, x35, x36, x37, x38, x39, x40, x41, x42, x43, x44, x45, x46, x47, x48, x49, x50, x51, x52, x53, x54] := by
  obtain ⟨⟨l⟩, d⟩ := a
  simp only [List.size_toArray] at h
  obtain ⟨x0, l, rfl⟩ : ∃ x l', l = x :: l' := by cases l with | nil => simp at h | cons x l => exact ⟨x, l, rfl⟩
  obtain ⟨x1, l, rfl⟩ : ∃ x l', l = x :: l' := by cases l with | nil => simp at h | cons x l => exact ⟨x, l, rfl⟩
  obtain ⟨x2, l, rfl⟩ : ∃ x l', l = x :: l' := by cases l with | nil => simp at h | cons x l => exact ⟨x, l, rfl⟩
  obtain ⟨x3, l, rfl⟩ : ∃ x l', l = x :: l' := by cases l with | nil => simp at h | cons x l => exact ⟨x, l, rfl⟩
  obtain ⟨x4, l, rfl⟩ : ∃ x l', l = x :: l' := by cases l with | nil => simp at h | cons x l => exact ⟨x, l, rfl⟩
  obtain ⟨x5, l, rfl⟩ : ∃ x l', l = x :: l' := by cases l with | nil => simp at h | cons x l => exact ⟨x, l, rfl⟩
  obtain ⟨x6, l, rfl⟩ : ∃ x l', l = x :: l' := by cases l with | nil => simp at h | cons x l => exact ⟨x, l, rfl⟩
  obtain ⟨x7, l, rfl⟩ : ∃ x l', l = x :: l' := by cases l with | nil => simp at h | cons x l => exact ⟨x, l, rfl⟩
  obtain ⟨x8, l, rfl⟩ : ∃ x l', l = x :: l' := by cases l with | nil => simp at h | cons x l => exact ⟨x, l, rfl⟩
  obtain ⟨x9, l, rfl⟩ : ∃ x l', l = x :: l' := by cases l with | nil => simp at h | cons x l => exact ⟨x, l, rfl⟩
  obtain ⟨x10, l, rfl⟩ : ∃ x l', l = x :: l' := by cases l with | nil => simp at h | cons x l => exact ⟨x, l, rfl⟩
  obtain ⟨x11, l, rfl⟩ : ∃ x l', l = x :: l' := by cases l with | nil => simp at h | cons x l => exact ⟨x, l, rfl⟩
  obtain ⟨x12, l, rfl⟩ : ∃ x l', l = x :: l' := by cases l with | nil => simp at h | cons x l => exact ⟨x, l, rfl⟩
  obtain ⟨x13, l, rfl⟩ : ∃ x l', l = x :: l' := by cases l with | nil => simp at h | cons x l => exact ⟨x, l, rfl⟩
  obtain ⟨x14, l, rfl⟩ : ∃ x l', l = x :: l' := by cases l with | nil => simp at h | cons x l => exact ⟨x, l, rfl⟩
  obtain ⟨x15, l, rfl⟩ : ∃ x l', l = x :: l' := by cases l with | nil => simp at h | cons x l => exact ⟨x, l, rfl⟩
  obtain ⟨x16, l, rfl⟩ : ∃ x l', l = x :: l' := by cases l with | nil => simp at h | cons x l => exact ⟨x, l, rfl⟩
  obtain ⟨x17, l, rfl⟩ : ∃ x l', l = x :: l' := by cases l with | nil => simp at h | cons x l => exact ⟨x, l, rfl⟩
  obtain ⟨x18, l, rfl⟩ : ∃ x l', l = x :: l' := by cases l with | nil => simp at h | cons x l => exact ⟨x, l, rfl⟩
  obtain ⟨x19, l, rfl⟩ : ∃ x l', l = x :: l' := by cases l with | nil => simp at h | cons x l => exact ⟨x, l, rfl⟩
  obtain ⟨x20, l, rfl⟩ : ∃ x l', l = x :: l' := by cases l with | nil => simp at h | cons x l => exact ⟨x, l, rfl⟩
  obtain ⟨x21, l, rfl⟩ : ∃ x l', l = x :: l' := by cases l with | nil => simp at h | cons x l => exact ⟨x, l, rfl⟩
  obtain ⟨x22, l, rfl⟩ : ∃ x l', l = x :: l' := by cases l with | nil => simp at h | cons x l => exact ⟨x, l, rfl⟩
  obtain ⟨x23, l, rfl⟩ : ∃ x l', l = x :: l' := by cases l with | nil => simp at h | cons x l => exact ⟨x, l, rfl⟩
  obtain ⟨x24, l, rfl⟩ : ∃ x l', l = x :: l' := by cases l with | nil => simp at h | cons x l => exact ⟨x, l, rfl⟩
  obtain ⟨x25, l, rfl⟩ : ∃ x l', l = x :: l' := by cases l with | nil => simp at h | cons x l => exact ⟨x, l, rfl⟩
  obtain ⟨x26, l, rfl⟩ : ∃ x l', l = x :: l' := by cases l with | nil => simp at h | cons x l => exact ⟨x, l, rfl⟩
  obtain ⟨x27, l, rfl⟩ : ∃ x l', l = x :: l' := by cases l with | nil => simp at h | cons x l => exact ⟨x, l, rfl⟩
  obtain ⟨x28, l, rfl⟩ : ∃ x l', l = x :: l' := by cases l with | nil => simp at h | cons x l => exact ⟨x, l, rfl⟩
  obtain ⟨x29, l, rfl⟩ : ∃ x l', l = x :: l' := by cases l with | nil => simp at h | cons x l => exact ⟨x, l, rfl⟩
  obtain ⟨x30, l, rfl⟩ : ∃ x l', l = x :: l' := by cases l with | nil => simp at h | cons x l => exact ⟨x, l, rfl⟩
  obtain ⟨x31, l, rfl⟩ : ∃ x l', l = x :: l' := by cases l with | nil => simp at h | cons x l => exact ⟨x, l, rfl⟩
  obtain ⟨x32, l, rfl⟩ : ∃ x l', l = x :: l' := by cases l with | nil => simp at h | cons x l => exact ⟨x, l, rfl⟩
  obtain ⟨x33, l, rfl⟩ : ∃ x l', l = x :: l' := by cases l with | nil => simp at h | cons x l => exact ⟨x, l, rfl⟩
  obtain ⟨x34, l, rfl⟩ : ∃ x l', l = x :: l' := by cases l with | nil => simp at h | cons x l => exact ⟨x, l, rfl⟩
  obtain ⟨x35, l, rfl⟩ : ∃ x l', l = x :: l' := by cases l with | nil => simp at h | cons x l => exact ⟨x, l, rfl⟩
  obtain ⟨x36, l, rfl⟩ : ∃ x l', l = x :: l' := by cases l with | nil => simp at h | cons x l => exact ⟨x, l, rfl⟩
  obtain ⟨x37, l, rfl⟩ : ∃ x l', l = x :: l' := by cases l with | nil => simp at h | cons x l => exact ⟨x, l, rfl⟩
  obtain ⟨x38, l, rfl⟩ : ∃ x l', l = x :: l' := by cases l with | nil => simp at h | cons x l => exact ⟨x, l, rfl⟩
  obtain ⟨x39, l, rfl⟩ : ∃ x l', l = x :: l' := by cases l with | nil => simp at h | cons x l => exact ⟨x, l, rfl⟩
  obtain ⟨x40, l, rfl⟩ : ∃ x l', l = x :: l' := by cases l with | nil => simp at h | cons x l => exact ⟨x, l, rfl⟩
  obtain ⟨x41, l, rfl⟩ : ∃ x l', l = x :: l' := by cases l with | nil => simp at h | cons x l => exact ⟨x, l, rfl⟩
  obtain ⟨x42, l, rfl⟩ : ∃ x l', l = x :: l' := by cases l with | nil => simp at h | cons x l => exact ⟨x, l, rfl⟩
  obtain ⟨x43, l, rfl⟩ : ∃ x l', l = x :: l' := by cases l with | nil => simp at h | cons x l => exact ⟨x, l, rfl⟩
  obtain ⟨x44, l, rfl⟩ : ∃ x l', l = x :: l' := by cases l with | nil => simp at h | cons x l => exact ⟨x, l, rfl⟩
  obtain ⟨x45, l, rfl⟩ : ∃ x l', l = x :: l' := by cases l with | nil => simp at h | cons x l => exact ⟨x, l, rfl⟩
  obtain ⟨x46, l, rfl⟩ : ∃ x l', l = x :: l' := by cases l with | nil => simp at h | cons x l => exact ⟨x, l, rfl⟩
  obtain ⟨x47, l, rfl⟩ : ∃ x l', l = x :: l' := by cases l with | nil => simp at h | cons x l => exact ⟨x, l, rfl⟩
  obtain ⟨x48, l, rfl⟩ : ∃ x l', l = x :: l' := by cases l with | nil => simp at h | cons x l => exact ⟨x, l, rfl⟩
  obtain ⟨x49, l, rfl⟩ : ∃ x l', l = x :: l' := by cases l with | nil => simp at h | cons x l => exact ⟨x, l, rfl⟩
  obtain ⟨x50, l, rfl⟩ : ∃ x l', l = x :: l' := by cases l with | nil => simp at h | cons x l => exact ⟨x, l, rfl⟩
  obtain ⟨x51, l, rfl⟩ : ∃ x l', l = x :: l' := by cases l with | nil => simp at h | cons x l => exact ⟨x, l, rfl⟩
  obtain ⟨x52, l, rfl⟩ : ∃ x l', l = x :: l' := by cases l with | nil => simp at h | cons x l => exact ⟨x, l, rfl⟩
  obtain ⟨x53, l, rfl⟩ : ∃ x l', l = x :: l' := by cases l with | nil => simp at h | cons x l => exact ⟨x, l, rfl⟩
  obtain ⟨x54, l, rfl⟩ : ∃ x l', l = x :: l' := by cases l with | nil => simp at h | cons x l => exact ⟨x, l, rfl⟩
  obtain rfl : l = [] := by cases l with | nil => rfl | cons x l => simp at h
  exact ⟨x0, x1, x2, x3, x4, x5, x6, x7, x8, x9, x10, x11, x12, x13, x14, x15, x16, x17, x18, x19, x20, x21, x22, x23, x24, x25, x26, x27, x28, x29, x30, x31, x32, x33, x34, x35, x36, x37, x38, x39, x40, x41, x42, x43, x44, x45, x46, x47, x48, x49, x50, x51, x52, x53, x54, rfl⟩

set_option maxHeartbeats 1000000 in
theorem reg7 {Q : Exit → Act → World → Prop} {w : World} {rb len cap i : Nat} {c more : Int} (x0 x1 x2 x3 x4 x5 x6 x7 x8 x9 x10 x11 x12 x13 x14 x15 x16 x17 x18 x19 x20 x21 x22 x23 x24 x25 x26 x27 x28 x29 x30 x31 x32 x33 x34 x35 x36 x37 x38 x39 x40 x41 x42 x43 x44 x45 x46 x47 x48 x49 x50 x51 x52 x53 x54 : Value) (h7 : x7 = .slice (some ⟨rb, 0, none⟩) len cap) (h9 : x9 = .int .i64 i) (h2 : x2 = .int .u8 more)
    (hi0 : (0 : Int) ≤ (i : Int)) (hi : (i : Int) < (len : Int)) (hc : w.cell? ⟨rb, i, none⟩ = some (.int .u8 c)) (hf : w.frozen? ⟨rb, i, none⟩ = false)
    (hQ : ∀ a, a.tmps.size = 55 → a.defers = [] → a.tmps.getD 7 undef = .slice (some ⟨rb, 0, none⟩) len cap →
      Q .normal a (w.setCell ⟨rb, i, none⟩ (.int .u8 ((c + (1 + more.tmod 255)) % 256)))) :
    bR7.wp Tryz.prog Q ⟨#[x0, x1, x2, x3, x4, x5, x6, x7, x8, x9, x10, x11, x12, x13, x14, x15, x16, x17, x18, x19, x20, x21, x22, x23, x24, x25, x26, x27, x28, x29, x30, x31, x32, x33, x34, x35, x36, x37, x38, x39, x40, x41, x42, x43, x44, x45, x46, x47, x48, x49, x50, x51, x52, x53, x54], []⟩ w := by
  subst h7 h9 h2
  simp only [bR7, lftC, rgtC, bodyB5, Tryz.f5, Option.getD_some]
  go_wp2
  exact hQ _ rfl rfl rfl
theorem reg7' {Q : Exit → Act → World → Prop} {w : World} {rb len cap i : Nat} {c more : Int} {a : Act} (hz : a.tmps.size = 55) (hd : a.defers = []) (h7 : a.tmps.getD 7 undef = .slice (some ⟨rb, 0, none⟩) len cap) (h9 : a.tmps.getD 9 undef = .int .i64 i)
    (h2 : a.tmps.getD 2 undef = .int .u8 more) (hi : i < len) (hc : w.cell? ⟨rb, i, none⟩ = some (.int .u8 c)) (hf : w.frozen? ⟨rb, i, none⟩ = false)
    (hQ : ∀ a, a.tmps.size = 55 → a.defers = [] → a.tmps.getD 7 undef = .slice (some ⟨rb, 0, none⟩) len cap →
      Q .normal a (w.setCell ⟨rb, i, none⟩ (.int .u8 ((c + (1 + more.tmod 255)) % 256)))) : bR7.wp Tryz.prog Q a w := by
  obtain ⟨x0, x1, x2, x3, x4, x5, x6, x7, x8, x9, x10, x11, x12, x13, x14, x15, x16, x17, x18, x19, x20, x21, x22, x23, x24, x25, x26, x27, x28, x29, x30, x31, x32, x33, x34, x35, x36, x37, x38, x39, x40, x41, x42, x43, x44, x45, x46, x47, x48, x49, x50, x51, x52, x53, x54, h⟩ := lit55 a hz
  obtain ⟨tm, df⟩ := a
  simp only at h hd
  subst h hd
  exact reg7 x0 x1 x2 x3 x4 x5 x6 x7 x8 x9 x10 x11 x12 x13 x14 x15 x16 x17 x18 x19 x20 x21 x22 x23 x24 x25 x26 x27 x28 x29 x30 x31 x32 x33 x34 x35 x36 x37 x38 x39 x40 x41 x42 x43 x44 x45 x46 x47 x48 x49 x50 x51 x52 x53 x54 h7 h9 h2 (by omega) (by omega) hc hf hQ
end Go.Vm.Redo
-- RB4: RedoBroken answers true: its call, whole.
set_option maxRecDepth 100000
namespace Go.Vm
open Go Go.RowKit
theorem inv_again {w w' : World} {φ : Phi} (hb : Below w.heap.size w w') (h : ∀ a v, φ a = some v → w'.cell? a = some v) : Inv w φ [] [] w' := by
  refine ⟨rfl, hb, h, ?_, ?_, ?_, ?_, ?_, ?_⟩ <;> intros <;> simp_all [look]
/-- What is known once the cells of one new row are known as they are now. -/
def knowRow (φ : Phi) (w' : World) (rb n : Nat) : Phi := fun a => if a.block = rb ∧ a.spot = none ∧ a.off < n then w'.cell? a else φ a
theorem knowRow_ext {w : World} {φ : Phi} (hk : ∀ a v, φ a = some v → w.cell? a = some v) {w' : World} {rb n : Nat} (hrb : w.heap.size ≤ rb) : Ext φ (knowRow φ w' rb n) := fun a v h => by
  have := World.block_lt_of_cell? w a (hk a v h)
  unfold knowRow
  rw [if_neg (fun hh => by omega)]
  exact h
theorem knowRow_known {w w' : World} {φ : Phi} (hk : ∀ a v, φ a = some v → w.cell? a = some v) (hb : Below w.heap.size w w') {rb n : Nat} : ∀ a v, knowRow φ w' rb n a = some v → w'.cell? a = some v := fun a v h => by
  unfold knowRow at h
  split at h
  · exact h
  · rw [hb.cell (World.block_lt_of_cell? w a (hk a v h))]; exact hk a v h
end Go.Vm
namespace Go.Vm.Redo
open Go Go.Vm Go.Proofs Go.RowKit

theorem results5 (a : Act) (w : World) : (results Tryz.f5 a.tmps).run Tryz.prog w = .ok (a.tmps.getD 6 undef) w := by
  have hr : Tryz.f5.results = #[.tmp 6] := by kernel_rfl
  rw [results_eq, hr, Array.mapM_eq_mapM_toList]
  simp [List.mapM_cons, res1]
theorem rep_row {w' : World} {φ : Phi} {rb cap : Nat} {bs : List UInt8} (hcap : bs.length ≤ cap) (hc : ∀ j (c : UInt8), bs[j]? = some c → w'.cell? ⟨rb, j, none⟩ = some (.int .u8 c.toNat)) {g : List GO} {m : Mem} :
    Rep (knowRow φ w' rb bs.length) g m (.sl false 1 (bytesV bs)) (.slice (some ⟨rb, 0, none⟩) bs.length cap) := by
  have hl : (bytesV bs).length = bs.length := bytesV_len bs
  have := sl_rep (φ := knowRow φ w' rb bs.length) (g := g) (m := m) (sz := 1) (xs := bytesV bs) (a := ⟨rb, 0, none⟩) (cap := cap) (by omega) ?_
  · rw [hl] at this; exact this
  · refine ⟨bs.map fun c => .int .u8 c.toNat, ?_, fun x hx => ?_, fun j v hv => ?_⟩
    · generalize knowRow φ w' rb bs.length = ψ
      clear hcap hc hl
      induction bs with
      | nil => exact RepCL.nil
      | cons c l ih => exact RepCL.cons rfl ih
    · obtain ⟨c, _, rfl⟩ := List.mem_map.1 hx; rfl
    · have hfl : ∀ l : List UInt8, flat (l.map fun c => Value.int .u8 c.toNat) = l.map fun c => Value.int .u8 c.toNat := fun l => by
        induction l with
        | nil => rfl
        | cons c l ih => simp only [flat, List.map_cons, List.flatMap_cons] at ih ⊢; rw [ih]; rfl
      rw [hfl, List.getElem?_map] at hv
      cases hq : bs[j]? with
      | none => rw [hq] at hv; cases hv
      | some c =>
        rw [hq] at hv; cases hv
        have hlt := (List.getElem?_eq_some_iff.1 hq).1
        rw [add_mk, Nat.zero_add]
        unfold knowRow
        rw [if_pos (by simp [hlt])]
        exact hc j c hq

theorem broken_calls {W : World} (hL : Laid W) (hg : Globs ann (phi0 W)) (x : Rec) (hx : x.Fit) (at0 : Int) (more : UInt8) {args : List Value} (hr : RepCL (phi0 W) [x.toV, .int .i64 at0, .int .u8 more.toNat] args) :
    Calls Tryz.prog 5 args.toArray W fun e W' => e = .returned (.bool true) ∧ Below W.heap.size W W' := by
  have hM1 : MachOK Tryz.prog W ann MM1 := mach_ok1 hL
  have hM2 : MachOK Tryz.prog W ann MM2 := mach_ok2 hL
  have hi0 : Inv W (phi0 W) [] [] W := inv_start W
  obtain ⟨c0, r, rfl, hc0, c1, r, rfl, hc1, c2, r, rfl, hc2, hr0⟩ := hr
  obtain rfl : r = [] := hr0
  obtain rfl : c1 = .int .i64 at0 := hc1
  obtain rfl : c2 = .int .u8 more.toNat := hc2
  have hrc : Rep (phi0 W) [] [] x.toV c0 := RepC.rep _ _ hc0
  refine calls_of_wp Tryz.func5 body5 ?_
  have hv0 : VarsOK F5 (phi0 W) [] [] (x.toV :: .int .i64 at0 :: .int .u8 more.toNat :: List.replicate 8 .undef) { tmps := [c0, .int .i64 at0, .int .u8 more.toNat].toArray ++ Array.replicate (Tryz.f5.ntmps - [c0, .int .i64 at0, .int .u8 more.toNat].toArray.size) undef, defers := [] } := by
    refine varsOK_of (by have : Tryz.f5.ntmps = 55 := by kernel_rfl
                         rw [this]; simp; rfl) rfl fun i t h => ?_
    match i with
    | 0 => cases h; simpa using hrc
    | 1 => cases h; simp; exact rfl
    | 2 => cases h; simp; exact rfl
    | i + 3 =>
      have : (x.toV :: V.int .i64 at0 :: .int .u8 more.toNat :: List.replicate 8 .undef).getD (i + 3) .undef = .undef := by
        simp only [List.getD, List.getElem?_cons_succ, List.getElem?_replicate]
        split <;> rfl
      rw [this]; exact rep_undef
  have done : ∀ {vars : List V} {m : Mem} {a : Act} {w : World} {φ : Phi} {g : List GO}, Inv W φ g m w → VarsOK F5 φ g m vars a → vars.getD 4 .undef = .bool true → bodyPost Tryz.prog Tryz.f5 (fun e W' => e = .returned (.bool true) ∧ Below W.heap.size W W') .ret a w := fun hi hv h4 => by
    have := hv.2.2 6 4 rfl
    rw [h4] at this
    refine ⟨hv.2.1, _, results5 _ _, ?_, hi.base⟩
    rw [rep_bool this]
  refine ex_then follows hM1 jB0 (xB0 x at0 more.toNat) (Nat.zero_le _) (closed_zero _) hi0 hg hv0 fun a1 w1 φ1 g1 go1 hv1 => ?_
  have hg1 := hg.ext go1.ext
  have e1 := xB1 x hx at0 more.toNat
  cases hfw : few [x] with
  | false =>
    rw [hfw] at e1
    simp only [Bool.false_eq_true, if_false] at e1
    exact ex_end follows hM1 jB1 e1 (Nat.zero_le _) (closed_zero _) go1.inv hg1 hv1 fun a2 w2 φ2 g2 go2 hv2 => done go2.inv hv2 rfl
  | true =>
    rw [hfw] at e1
    simp only [if_true] at e1
    refine ex_then follows hM1 jB1 e1 (Nat.zero_le _) (closed_zero _) go1.inv hg1 hv1 fun a2 w2 φ2 g2 go2 hv2 => ?_
    have hg2 := hg1.ext go2.ext
    have e3 := xB3 x hx at0 more.toNat
    cases hvx : validR x with
    | false =>
      rw [hvx] at e3
      simp only [Bool.false_eq_true, if_false] at e3
      refine ex_then follows hM2 jB3 e3 (Nat.zero_le _) (closed_zero _) go2.inv hg2 hv2 fun a3 w3 φ3 g3 go3 hv3 => ?_
      exact ex_end follows hM1 jB4 (xB4e x at0 more.toNat) (Nat.zero_le _) (closed_zero _) go3.inv (hg2.ext go3.ext) hv3 fun a4 w4 φ4 g4 go4 hv4 => done go4.inv hv4 rfl
    | true =>
      rw [hvx] at e3
      simp only [if_true] at e3
      have h7 := encB_seven x
      have hbig := enc_small x hvx
      refine ex_then follows hM2 jB3 e3 (Nat.zero_le _) (closed_zero _) go2.inv hg2 hv2 fun a3 w3 φ3 g3 go3 hv3 => ?_
      have hg3 := hg2.ext go3.ext
      refine ex_then follows hM1 jB4 (xB4 x _ _ at0 more.toNat) (Nat.zero_le _) (closed_zero _) go3.inv hg3 hv3 fun a4 w4 φ4 g4 go4 hv4 => ?_
      have hg4 := hg3.ext go4.ext
      obtain ⟨i, i2, iL, e6⟩ := xB6 x (encB x).length h7 hbig [.buf 1 false (bytesV (encB x)), .cells x.cells] at0 more.toNat
      refine ex_then follows hM1 jB6 e6 (Nat.zero_le _) (closed_zero _) go4.inv hg4 hv4 fun a5 w5 φ5 g5 go5 hv5 => ?_
      have hi5 := go5.inv
      obtain ⟨ra, rc, q1, q2⟩ := hi5.rows 1 1 false (bytesV (encB x)) rfl
      obtain ⟨sz', born', xs', ra', rc', p1, p2, p3, p4, p5⟩ := hv5.2.2 7 5 rfl
      have p1 : some (O.buf 1 false (bytesV (encB x))) = some (.buf sz' born' xs') := p1
      cases p1
      rw [q1] at p2; cases p2
      have h7t := p4 (by rw [bytesV_len])
      rcases q2 with ⟨_, _, _, hb⟩ | ⟨_, rb, rfl, hrb, hrb', hcap, hels, hsp, hfz⟩
      · cases hb
      have hcell := els_bytes hels hi5.known
      have hci : (encB x)[i]? = some (encB x)[i] := List.getElem?_eq_getElem iL
      generalize (encB x)[i] = c at hci
      have h9t := rep_int (hv5.2.2 9 7 rfl)
      have h2t := rep_int (hv5.2.2 2 2 rfl)
      refine wp_seq (reg7' hv5.1 hv5.2.1 h7t h9t h2t iL (hcell i c hci) (hfz i) fun a6 hz6 hd6 h76 => ?_)
      change (Code.seq bR8 _).wp _ _ _ _
      -- the byte is another one
      have hc256 := c.toNat_lt
      have hm256 := more.toNat_lt
      have ht : (more.toNat : Int).tmod 255 = ((more.toNat % 255 : Nat) : Int) := by rw [Int.tmod_eq_emod_of_nonneg (by omega)]; omega
      have hd : ((c.toNat : Int) + (1 + (more.toNat : Int).tmod 255)) % 256 = ((UInt8.ofNat ((c.toNat + (1 + more.toNat % 255)) % 256)).toNat : Int) := by
        rw [ht, UInt8.toNat_ofNat']; omega
      have hne : c ≠ UInt8.ofNat ((c.toNat + (1 + more.toNat % 255)) % 256) := fun e => by
        have := congrArg UInt8.toNat e
        rw [UInt8.toNat_ofNat'] at this
        omega
      rw [hd]
      generalize UInt8.ofNat ((c.toNat + (1 + more.toNat % 255)) % 256) = d at *
      have hbr := decode_broken x hvx i i2 c d hci hne
      generalize hw6 : w5.setCell ⟨rb, i, none⟩ (.int .u8 d.toNat) = w6
      have hb6 : Below W.heap.size W w6 := by
        have := below_setCells hi5.base hrb i [.int .u8 d.toNat]
        rw [← hw6]; exact this
      have hc6 : ∀ j (e : UInt8), ((encB x).set i d)[j]? = some e → w6.cell? ⟨rb, j, none⟩ = some (.int .u8 e.toNat) := fun j e hj => by
        rw [← hw6]
        by_cases hji : i = j
        · subst hji
          rw [List.getElem?_set_self iL] at hj
          cases hj
          exact World.cell?_setCell_same _ _ _ (hcell i c hci)
        · rw [List.getElem?_set_ne hji] at hj
          rw [World.cell?_setCell_other _ _ _ _ (fun hh => hji (by cases hh; rfl))]
          exact hcell j e hj
      have hlen : ((encB x).set i d).length = (encB x).length := by simp
      have hk0 : ∀ a v, phi0 W a = some v → W.cell? a = some v := fun _ _ h => h
      have hi6 : Inv W (knowRow (phi0 W) w6 rb ((encB x).set i d).length) [] [] w6 := inv_again hb6 (knowRow_known hk0 hb6)
      have hg6 := hg.ext (knowRow_ext (w' := w6) (n := ((encB x).set i d).length) hk0 hrb)
      have hrep := rep_row (φ := phi0 W) (w' := w6) (rb := rb) (cap := rc) (bs := (encB x).set i d) (g := []) (m := []) (by rw [hlen]; rw [bytesV_len] at hcap; exact hcap) hc6
      have hv6 : VarsOK F5 (knowRow (phi0 W) w6 rb ((encB x).set i d).length) [] [] [.undef, .undef, .undef, .undef, .undef, .sl false 1 (bytesV ((encB x).set i d)), .undef, .undef, .undef, .undef, .undef] a6 := varsOK_of hz6 hd6 fun k t h => by
        have hlt : k < 11 := (List.getElem?_eq_some_iff.1 h).1
        match k, hlt, h with
        | 0, _, _ => exact rep_undef
        | 1, _, _ => exact rep_undef
        | 2, _, _ => exact rep_undef
        | 3, _, _ => exact rep_undef
        | 4, _, _ => exact rep_undef
        | 5, _, h => cases h; rw [h76, ← hlen]; exact hrep
        | 6, _, _ => exact rep_undef
        | 7, _, _ => exact rep_undef
        | 8, _, _ => exact rep_undef
        | 9, _, _ => exact rep_undef
        | 10, _, _ => exact rep_undef
      obtain ⟨o, e8⟩ := xB8 ((encB x).set i d) (by rw [hlen]; omega) hbr
      refine ex_then follows hM1 jB8 e8 (Nat.zero_le _) (closed_zero _) hi6 hg6 hv6 fun a7 w7 φ7 g7 go7 hv7 => ?_
      refine ex_then follows hM1 jB9 (xB9 _ _) (Nat.zero_le _) (closed_zero _) go7.inv (hg6.ext go7.ext) hv7 fun a8 w8 φ8 g8 go8 hv8 => ?_
      exact wp_ret (done go8.inv hv8 rfl)
end Go.Vm.Redo
