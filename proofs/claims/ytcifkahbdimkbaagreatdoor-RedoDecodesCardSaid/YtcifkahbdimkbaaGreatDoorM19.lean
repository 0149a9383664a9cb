/- Part 19 of the ground under the rows: What the rows list, as the machine of this seat asks for it. -/
import Derived.Test.YtcifkahbdimkbaaGreatDoorM18
import Derived.Test.YtcifkahbdimkbaaGreatDoorRows
import Derived.MakeChecks
set_option linter.unusedSimpArgs false
set_option linter.unusedVariables false
-- RO1: What the rows list, as the machine of this seat asks for it.
set_option maxRecDepth 100000
namespace Go.Vm
open Go Go.RowKit
theorem laid_get {P : Program} {w : World} : ∀ {laid : List (String × DataW Unit)} {ps : List MemPlace} {n : String} {d : DataW Unit}, DataW.LaidVars P w laid ps → (n, d) ∈ laid →
    ∃ g t cs fuel p, P.globalNamed n = some g ∧ (P.globals[g]?).map (·.type) = some t ∧ w.var? P n = some cs ∧ DataW.trod (fun _ => ()) P w 0 (fun _ => true) false fuel t cs.toList = some (d, p)
  | [], _, _, _, _, h => by cases h
  | (n', d') :: r, ps, n, d, h, hm => by
    obtain ⟨g, t, cs, fuel, p, q, h1, h2, h3, h4, h5, _⟩ := h
    rcases List.mem_cons.1 hm with e | hm
    · cases e; exact ⟨g, t, cs, fuel, p, h1, h2, h3, h4⟩
    · exact laid_get h5 hm
end Go.Vm
namespace Go.Vm.Redo
open Go Go.Vm Go.Proofs Go.RowKit

def laidR : List (String × DataW Unit) := Go.Proofs.YtcifkahbdimkbaaGreatDoor.Rows.redoDecodesRow.laid

theorem tab_of {w : World} {ps : List MemPlace} (h : DataW.LaidVars Tryz.prog w laidR ps) {n : String} {k : IntKind} {zs : List Int} (i : Nat) (hi : laidR[i]? = some (n, Lib.tabData k zs)) {gl ty e m : Nat} (hg : Tryz.prog.globalNamed n = some gl)
    (ht : (Tryz.prog.globals[gl]?).map (·.type) = some ty) (hu : Tryz.prog.underlying ty = some (.array m e)) (he : Tryz.prog.underlying e = some (.int k)) (hc : Tryz.prog.cellsOf e = 1) (hct : Tryz.prog.cellsOf ty = m) : Lib.TabIs Tryz.prog w n k zs := by
  obtain ⟨g, t, cs, fuel, p, h1, h2, h3, h4⟩ := laid_get h (List.mem_of_getElem? hi)
  obtain rfl := Option.some.inj (hg.symm.trans h1)
  obtain rfl := Option.some.inj (ht.symm.trans h2)
  unfold Lib.TabIs
  rw [h3, ← Lib.cells_of_tab hu he hc hct h4]

theorem laid_of {w : World} (h : laidMetH Tryz.prog laidR w) (hs : w.ShapedOpen Tryz.prog) : Laid w := by
  rw [MakeChecks.laidMetH_plain _ _ _ (by kernel_rfl)] at h
  obtain ⟨ps, h, _⟩ := h
  refine ⟨?_, ?_, hs⟩
  · exact tab_of h 2 (by kernel_rfl) (gl := 3) (by kernel_rfl) (ty := 166) (by kernel_rfl) (m := 20) (e := 131) (by kernel_rfl) (by kernel_rfl) (by kernel_rfl) (by kernel_rfl)
  · exact tab_of h 5 (by kernel_rfl) (gl := 0) (by kernel_rfl) (ty := 106) (by kernel_rfl) (m := 256) (e := 5) (by kernel_rfl) (by kernel_rfl) (by kernel_rfl) (by kernel_rfl)

theorem globs_of {w : World} (h : laidMetH Tryz.prog laidR w) : Globs ann (phi0 w) := by
  rw [MakeChecks.laidMetH_plain _ _ _ (by kernel_rfl)] at h
  obtain ⟨ps, h, _⟩ := h
  have hi : laidR[6]? = some ("justiciar/value.Null", .agg [.lit (.int .i64 0), .lit (.int .i64 0), .lit (.string [])]) := by kernel_rfl
  obtain ⟨g, t, cs, fuel, p, h1, h2, h3, h4⟩ := laid_get h (List.mem_of_getElem? hi)
  have hg : Tryz.prog.globalNamed "justiciar/value.Null" = some 2 := by kernel_rfl
  have ht : (Tryz.prog.globals[2]?).map (·.type) = some 54 := by kernel_rfl
  obtain rfl := Option.some.inj (hg.symm.trans h1)
  obtain rfl := Option.some.inj (ht.symm.trans h2)
  obtain ⟨xs, n, rfl, hx, hlen, hxs, hf⟩ := DataW.trod_struct Tryz.underlying54 h4
  rw [c54] at hlen
  obtain ⟨l⟩ := cs
  simp only at hlen hf
  match l, hlen with
  | [a, b, c], _ =>
    have f0 := hf 0 _ rfl
    have f1 := hf 1 _ rfl
    have f2 := hf 2 _ rfl
    match xs, hxs with
    | [x0, x1, x2], _ =>
      simp only [Prod.mk.injEq, DataW.agg.injEq, List.map_cons, List.map_nil, List.cons.injEq, and_true] at hx
      obtain ⟨⟨e0, e1, e2⟩, _⟩ := hx
      obtain ⟨k0, q0, r0, _⟩ := DataW.trod_int Tryz.underlying52 (show DataW.trod _ Tryz.prog w 0 _ false n 52 _ = some x0 from f0)
      obtain ⟨k1, q1, r1, _⟩ := DataW.trod_int Tryz.underlying3 (show DataW.trod _ Tryz.prog w 0 _ false n 3 _ = some x1 from f1)
      obtain ⟨k2, q2, r2, _⟩ := DataW.trod_string Tryz.underlying9 (show DataW.trod _ Tryz.prog w 0 _ false n 9 _ = some x2 from f2)
      subst r0 r1 r2
      cases e0
      cases e1
      have ea : a = .int .i64 0 := List.head_eq_of_cons_eq (show [a] = [_] from q0)
      have eb : b = .int .i64 0 := List.head_eq_of_cons_eq (show [b] = [_] from q1)
      have ec : c = .string k2 := List.head_eq_of_cons_eq (show [c] = [_] from q2)
      have ek : k2 = ⟨[].toArray⟩ := by
        obtain ⟨⟨u⟩⟩ := k2
        have : u = [] := by
          cases u with
          | nil => rfl
          | cons x y => cases e2
        subst this; rfl
      subst ea eb ec ek
      intro g' v hv
      change globR g' = some v at hv
      unfold globR at hv
      split at hv
      · cases hv
        refine ⟨⟨2, 0, none⟩, .agg #[.int .i64 0, .int .i64 0, .string ⟨[].toArray⟩], ⟨_, rfl, RepCL.cons rfl (RepCL.cons rfl (RepCL.cons rfl RepCL.nil)), by simp [Value.oneCell']⟩, rfl, fun i v hv => ?_, rfl⟩
        have := World.var?_cell hg h3 i
        rw [add_mk, Nat.zero_add]
        unfold phi0
        rw [this]
        simpa [Value.cells] using hv
      · cases hv
end Go.Vm.Redo
