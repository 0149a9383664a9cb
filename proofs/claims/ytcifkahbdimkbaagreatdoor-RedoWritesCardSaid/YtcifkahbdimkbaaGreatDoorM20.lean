/- Part 20 of the ground under the rows: The world that the rows' witness begins in: all that they list is laid in it. -/
import Derived.Test.YtcifkahbdimkbaaGreatDoorM19
import Derived.ProofKit
import Derived.LaidMore
import Derived.OpenShut
import Derived.Stop.Joined
import Derived.Lay
set_option linter.unusedSimpArgs false
set_option linter.unusedVariables false
-- RO2: The world that the rows' witness begins in: all that they list is laid in it.
set_option maxRecDepth 100000
namespace Go.Vm.Redo
open Go Go.Vm Go.Proofs Go.RowKit

theorem own : ownKnob Tryz.prog.godebug = none := by kernel_rfl
noncomputable def laidW (os : Os) : World := World.laidAll Tryz.prog os laidR
theorem laidW_fits (os : Os) : (World.holding Tryz.prog os ⟨#[], #[], []⟩).layFits Tryz.prog laidR [] = true := by kernel_rfl
theorem laidW_ifaces (os : Os) : (World.holding Tryz.prog os ⟨#[], #[], []⟩).layIfaces Tryz.prog laidR (World.laidAll Tryz.prog os laidR) = true := by kernel_rfl
theorem laidW_met (os : Os) (args : Array Value) : laidMetH Tryz.prog laidR ((laidW os).forCall (fun _ _ => 0) ⟨#[], args, []⟩).memory := by
  rw [MakeChecks.laidMetH_plain _ _ _ (by kernel_rfl)]
  exact laidMet_laidAll _ (laidW_fits os) (laidW_ifaces os)
theorem laidW_zip (os : Os) : (laidW os).variablesZipB Tryz.prog = true := by kernel_rfl
theorem laidW_rest (os : Os) : ((laidW os).heap.toList.drop Tryz.prog.globals.size).take ((begin Tryz.prog (fun _ _ => 0) default).world.heap.size - Tryz.prog.globals.size) = (begin Tryz.prog (fun _ _ => 0) default).world.heap.toList.drop Tryz.prog.globals.size := by kernel_rfl
theorem laidW_shaped (os : Os) : (laidW os).Shaped Tryz.prog := World.shaped_of_ZipB (laidW_zip os) (laidW_rest os)
end Go.Vm.Redo
-- VmPart: Two machines that part in a function that a call does not come to answer alike.
namespace Go.Vm
open Go

def opCallees : VOp → Option (List FuncId)
  | .call f _ => some [f]
  | .callg _ f _ => some [f]
  | .callv _ _ => none
  | _ => some []
def opsCallees : List VOper → Option (List FuncId)
  | [] => some []
  | o :: l => (opCallees o.op).bind fun a => (opsCallees l).map fun b => a ++ b
/-- The functions that code calls by name; none: it calls a function value. -/
def callees : VC → Option (List FuncId)
  | .reg ops => opsCallees ops
  | .draw ops _ => opsCallees ops
  | .seq a b | .cond _ a b => (callees a).bind fun x => (callees b).map fun y => x ++ y
  | .block _ c | .loop _ c => callees c
  | _ => some []

section
variable {cf cf' : CF} {S : List FuncId}

def Agrees (cf cf' : CF) (S : List FuncId) : Prop := ∀ f ∈ S, ∀ args m, cf f args m = cf' f args m

theorem opRun_part {b : Nat} {m : Mem} {e : Opd → V} {o : VOp} (h : Agrees cf cf' S) {l : List FuncId} (hl : opCallees o = some l) (hs : ∀ f ∈ l, f ∈ S) : opRun cf b m e o = opRun cf' b m e o := by
  unfold opRun
  cases pureOp e o with
  | some v => rfl
  | none =>
    simp only
    cases readOp m e o with
    | some v => rfl
    | none =>
      simp only
      cases effOp b m e o with
      | some v => rfl
      | none =>
        simp only
        cases o with
        | call f args =>
          simp only [opCallees, Option.some.injEq] at hl
          subst hl
          unfold callOp
          simp only [h f (hs f (by simp))]
        | callg sz f args =>
          simp only [opCallees, Option.some.injEq] at hl
          subst hl
          unfold callgOp
          simp only [h f (hs f (by simp))]
        | callv f args => simp [opCallees] at hl
        | _ => rfl

theorem runOps_part {b : Nat} (h : Agrees cf cf' S) : ∀ (ops : List VOper) (ov vars : List V) (m : Mem) (l : List FuncId), opsCallees ops = some l → (∀ f ∈ l, f ∈ S) → runOps cf b ops ov vars m = runOps cf' b ops ov vars m
  | [], _, _, _, _, _, _ => rfl
  | o :: r, ov, vars, m, l, hl, hs => by
    simp only [opsCallees] at hl
    obtain ⟨x, h1, hl⟩ := obind hl
    obtain ⟨y, h2, rfl⟩ := omap hl
    have ih := fun ov vars m => runOps_part (b := b) h r ov vars m y h2 (fun f hf => hs f (List.mem_append_right _ hf))
    have ho := opRun_part (b := b) (m := m) (e := opd ov vars) h h1 (fun f hf => hs f (List.mem_append_left _ hf))
    simp only [runOps, ho, ih]

theorem runDraw_part {b : Nat} (h : Agrees cf cf' S) (pre : List Nat) : ∀ (ops : List VOper) (i : Nat) (s : DS) (l : List FuncId), opsCallees ops = some l → (∀ f ∈ l, f ∈ S) → runDraw cf b pre i ops s = runDraw cf' b pre i ops s
  | [], _, _, _, _, _ => rfl
  | o :: r, i, s, l, hl, hs => by
    simp only [opsCallees] at hl
    obtain ⟨x, h1, hl⟩ := obind hl
    obtain ⟨y, h2, rfl⟩ := omap hl
    have ih := fun s => runDraw_part (b := b) h pre r (i + 1) s y h2 (fun f hf => hs f (List.mem_append_right _ hf))
    have ho := opRun_part (b := b) (m := s.m) (e := opd s.ov s.vars) h h1 (fun f hf => hs f (List.mem_append_left _ hf))
    have hd : drawStep cf b pre i o s = drawStep cf' b pre i o s := by unfold drawStep; rw [ho]
    simp only [runDraw, hd]
    congr 1
    funext s'
    exact ih s'

theorem rounds_part {b L : Nat} {kill : List Nat} {g g' : List V → Mem → Option Rs} (h : ∀ vars m, g vars m = g' vars m) : ∀ (n : Nat) (vars : List V) (m : Mem), rounds b L kill g n vars m = rounds b L kill g' n vars m := by
  have : g = g' := by funext vars m; exact h vars m
  rw [this]; intros; rfl

theorem exec_part {b n : Nat} (h : Agrees cf cf' S) : ∀ (c : VC) (vars : List V) (m : Mem) (l : List FuncId), callees c = some l → (∀ f ∈ l, f ∈ S) → exec cf b n c vars m = exec cf' b n c vars m := by
  intro c
  induction c with
  | skip => intros; rfl
  | exit id => intros; rfl
  | ret => intros; rfl
  | reg ops => intro vars m l hl hs; exact runOps_part h ops [] vars m l hl hs
  | draw ops d => intro vars m l hl hs; simp only [exec, runDraw_part h d.pre ops 0 _ l hl hs]
  | seq x y ihx ihy =>
    intro vars m l hl hs
    simp only [callees] at hl
    obtain ⟨a, h1, hl⟩ := obind hl
    obtain ⟨c, h2, rfl⟩ := omap hl
    simp only [exec, ihx vars m a h1 (fun f hf => hs f (List.mem_append_left _ hf))]
    split
    · exact ihy _ _ c h2 (fun f hf => hs f (List.mem_append_right _ hf))
    · rfl
  | cond o x y ihx ihy =>
    intro vars m l hl hs
    simp only [callees] at hl
    obtain ⟨a, h1, hl⟩ := obind hl
    obtain ⟨c, h2, rfl⟩ := omap hl
    simp only [exec, ihx vars m a h1 (fun f hf => hs f (List.mem_append_left _ hf)), ihy vars m c h2 (fun f hf => hs f (List.mem_append_right _ hf))]
  | block id x ih =>
    intro vars m l hl hs
    simp only [exec, ih vars m l hl hs]
  | loop kill x ih =>
    intro vars m l hl hs
    simp only [exec]
    exact rounds_part (fun vars m => ih vars m l hl hs) _ _ _

theorem callF_part {M M' : Machine'} (hfun : ∀ f ∈ S, M.funs f = M'.funs f) (hprim : ∀ f ∈ S, M.prims f = M'.prims f)
    (hcl : ∀ f ∈ S, M.prims f = none → ∀ F, M.funs f = some F → ∃ l, callees F.body = some l ∧ ∀ g ∈ l, g ∈ S) : ∀ n, Agrees (callF M n) (callF M' n) S
  | 0 => fun _ _ _ _ => rfl
  | n + 1 => fun f hf args m => by
    have ih := callF_part hfun hprim hcl n
    simp only [callF]
    rw [← hprim f hf, ← hfun f hf]
    cases hp : M.prims f with
    | some p => rfl
    | none =>
      simp only
      cases hF : M.funs f with
      | none => rfl
      | some F =>
        obtain ⟨l, h1, h2⟩ := hcl f hf hp F hF
        simp only [exec_part (b := m.length) (n := n) ih F.body _ m l h1 h2]

theorem callL_part {M M' : Machine'} (hfun : ∀ f ∈ S, M.funs f = M'.funs f) (hprim : ∀ f ∈ S, M.prims f = M'.prims f)
    (hcl : ∀ f ∈ S, M.prims f = none → ∀ F, M.funs f = some F → ∃ l, callees F.body = some l ∧ ∀ g ∈ l, g ∈ S) : Agrees (callL M) (callL M') S := fun f hf args m => by
  unfold callL
  congr 1
  funext n
  exact callF_part hfun hprim hcl n f hf args m
end

theorem callL_pure {P : Program} {w0 : World} {A : Ann} {M : Machine'} (hf : P.follows .mixedOrders = true) (hM : MachOK P w0 A M) : CFpure (callL M) := fun f args m out h => by
  obtain ⟨n, hn⟩ := (callL_iff M f args m out).1 h
  exact (callF_ok hM (fun _ _ h1 h2 => draw_ok hf h1 h2) n).2 f args m out hn

/-- Code by the limit machine: one piece of a function's code. -/
theorem ex_ok {P : Program} {w0 : World} {A : Ann} {F : FAnn} {M : Machine'} (hf : P.follows .mixedOrders = true) (hM : MachOK P w0 A M) {c : Code} {ks ks' : List (List Nat)} {vc : VC} (hc : codeOf P A F c ks = some (vc, ks')) {b : Nat}
    {vars : List V} {m : Mem} {rs : Rs} {g : List GO} {φ : Phi} {a : Act} {w : World} {Q : Exit → Act → World → Prop} (hx : ex (callL M) b vc vars m = some rs) (hb : b ≤ m.length) (hcl : Closed b m) (hi : Inv w0 φ g m w) (hg : Globs A φ)
    (hv : VarsOK F φ g m vars a) (hq : RsOK w0 φ g m F Q rs) : c.wp P Q a w := by
  obtain ⟨n, hn⟩ := (ex_iff (callL M) b vc vars m rs).1 hx
  exact exec_ok (draw_ok hf (callL_ok hf hM) (callL_pure hf hM)) (callL_ok hf hM) (callL_pure hf hM) c ks vc ks' hc vars m rs g φ a w Q hn hb hcl hi hg hv hq

/-- A piece, then the rest. -/
theorem ex_then {P : Program} {w0 : World} {A : Ann} {F : FAnn} {M : Machine'} (hf : P.follows .mixedOrders = true) (hM : MachOK P w0 A M) {c rest : Code} {ks ks' : List (List Nat)} {vc : VC} (hc : codeOf P A F c ks = some (vc, ks')) {b : Nat}
    {vars vars' : List V} {m m' : Mem} {g : List GO} {φ : Phi} {a : Act} {w : World} {Q : Exit → Act → World → Prop} (hx : ex (callL M) b vc vars m = some (.nrm vars' m')) (hb : b ≤ m.length) (hcl : Closed b m) (hi : Inv w0 φ g m w) (hg : Globs A φ)
    (hv : VarsOK F φ g m vars a) (hq : ∀ a' w' φ' g', Goes w0 φ g m φ' g' m' w' → VarsOK F φ' g' m' vars' a' → rest.wp P Q a' w') : (Code.seq c rest).wp P Q a w :=
  wp_seq (ex_ok hf hM hc hx hb hcl hi hg hv fun a' w' φ' g' hgo hv' => hq a' w' φ' g' hgo hv')
/-- A piece that returns. -/
theorem ex_end {P : Program} {w0 : World} {A : Ann} {F : FAnn} {M : Machine'} (hf : P.follows .mixedOrders = true) (hM : MachOK P w0 A M) {c rest : Code} {ks ks' : List (List Nat)} {vc : VC} (hc : codeOf P A F c ks = some (vc, ks')) {b : Nat}
    {vars vars' : List V} {m m' : Mem} {g : List GO} {φ : Phi} {a : Act} {w : World} {Q : Exit → Act → World → Prop} (hx : ex (callL M) b vc vars m = some (.ret vars' m')) (hb : b ≤ m.length) (hcl : Closed b m) (hi : Inv w0 φ g m w) (hg : Globs A φ)
    (hv : VarsOK F φ g m vars a) (hq : ∀ a' w' φ' g', Goes w0 φ g m φ' g' m' w' → VarsOK F φ' g' m' vars' a' → Q .ret a' w') : (Code.seq c rest).wp P Q a w :=
  wp_seq (ex_ok hf hM hc hx hb hcl hi hg hv fun a' w' φ' g' hgo hv' => hq a' w' φ' g' hgo hv')

theorem varsOK_of {φ : Phi} {g : List GO} {m : Mem} {F : FAnn} {vars : List V} {a : Act} (hz : a.tmps.size = F.n) (hd : a.defers = []) (h : ∀ i t, F.slots[i]? = some t → Rep φ g m (vars.getD i .undef) (a.tmps.getD t undef)) : VarsOK F φ g m vars a :=
  ⟨hz, hd, fun t i hs => h i t (by
    simp only [List.idxOf?, List.findIdx?_eq_some_iff_getElem, beq_iff_eq] at hs
    obtain ⟨h1, h2, _⟩ := hs
    rw [List.getElem?_eq_getElem h1, h2])⟩
end Go.Vm
-- RE1: redo.Encode: its code, piece by piece, and what the pure machine does with the pieces that it takes.
set_option maxRecDepth 100000
namespace Go.Vm.Redo
open Go Go.Vm Go.Proofs Go.RowKit

def lftC : Code → Code | .seq a _ => a | c => c
def rgtC : Code → Code | .seq _ b => b | c => c
noncomputable def bodyE : Code := (Tryz.f12.body).getD .skip
noncomputable def cR0 : Code := lftC bodyE
noncomputable def cC1 : Code := lftC (rgtC bodyE)
noncomputable def cR3 : Code := lftC (rgtC (rgtC bodyE))
noncomputable def cR4 : Code := lftC (rgtC (rgtC (rgtC bodyE)))
noncomputable def cL5 : Code := lftC (rgtC (rgtC (rgtC (rgtC bodyE))))
noncomputable def cR10 : Code := lftC (rgtC (rgtC (rgtC (rgtC (rgtC bodyE)))))
noncomputable def cC11 : Code := lftC (rgtC (rgtC (rgtC (rgtC (rgtC (rgtC bodyE))))))
noncomputable def cR13 : Code := lftC (rgtC (rgtC (rgtC (rgtC (rgtC (rgtC (rgtC bodyE)))))))
noncomputable def cR14 : Code := lftC (rgtC (rgtC (rgtC (rgtC (rgtC (rgtC (rgtC (rgtC bodyE))))))))
noncomputable def cR15 : Code := lftC (rgtC (rgtC (rgtC (rgtC (rgtC (rgtC (rgtC (rgtC (rgtC bodyE)))))))))
theorem body_pieces : Tryz.f12.body = some (.seq cR0 (.seq cC1 (.seq cR3 (.seq cR4 (.seq cL5 (.seq cR10 (.seq cC11 (.seq cR13 (.seq cR14 (.seq cR15 .ret)))))))))) := by kernel_rfl

/-- What is chosen for it. -/
def F12 : FAnn := { slots := [0, 1, 2, 3, 4, 6, 7, 10, 20, 21, 22, 23, 39], kills := [[5, 11]], n := 66 }
def vR0 : VC := .reg [⟨some 1, .box (.v 0) [], none⟩, ⟨some 2, .mov (.c (.sl true 0 [])), none⟩, ⟨some 3, .mov (.c (.int .i64 0)), none⟩]
def vC1 : VC := .seq (.reg [⟨none, .load (some 9) (.v 1), none⟩, ⟨none, .call F.redo_Valid [(.l 0)], none⟩, ⟨some 7, .not (.l 0), none⟩])
  (.cond (.v 7) (.seq (.reg [⟨some 2, .mov (.c (.sl true 0 [])), none⟩, ⟨some 3, .mov (.c (.int .i64 2)), none⟩]) .ret) .skip)
def vR4 : VC := .reg [⟨none, .mov (.v 4), none⟩, ⟨none, .faddr 0 (.v 1), none⟩, ⟨none, .load none (.l 0), none⟩, ⟨none, .call F.redo_writer_number [(.l 2), (.l 0), (.c (.int .i64 1))], none⟩]
def vL5b : VC := .seq (.reg [⟨some 11, .bin .lss (.v 10) (.v 9), none⟩]) (.seq (.cond (.v 11) .skip (.exit 0)) (.seq (.block 1 (.seq
  (.reg [⟨none, .iaddr 1 (.v 8) (.v 10), none⟩, ⟨none, .load none (.l 0), none⟩, ⟨some 5, .mov (.l 0), none⟩])
  (.reg [⟨none, .mov (.v 4), none⟩, ⟨none, .load (some 9) (.v 1), none⟩, ⟨none, .mov (.v 5), none⟩, ⟨none, .call F.redo_writer_field [(.l 2), (.l 1), (.l 0)], none⟩])))
  (.reg [⟨none, .bin .add (.v 10) (.c (.int .i64 1)), none⟩, ⟨some 10, .mov (.l 0), none⟩])))
def vL5 : VC := .seq (.reg [⟨none, .faddr 0 (.v 1), none⟩, ⟨none, .load none (.l 0), none⟩, ⟨some 8, .call F.redo_fields [(.l 0)], none⟩, ⟨some 9, .len false (.v 8), none⟩, ⟨some 10, .mov (.c (.int .i64 0)), none⟩])
  (.block 0 (.loop [5, 11] vL5b))
def vR10 : VC := .reg [⟨none, .mov (.v 4), none⟩, ⟨none, .nilck (.l 0), none⟩, ⟨none, .faddr 0 (.l 0), none⟩, ⟨none, .load none (.l 0), none⟩, ⟨none, .len false (.l 0), none⟩, ⟨none, .bin .add (.l 0) (.c (.int .i64 4)), none⟩,
  ⟨none, .bin .sub (.l 0) (.c (.int .i64 2)), none⟩, ⟨some 6, .mov (.l 0), none⟩]
def vC11 : VC := .seq (.reg [⟨none, .mov (.v 6), none⟩, ⟨some 12, .bin .gtr (.l 0) (.c (.int .i64 65535)), none⟩])
  (.cond (.v 12) (.seq (.reg [⟨some 2, .mov (.c (.sl true 0 [])), none⟩, ⟨some 3, .mov (.c (.int .i64 3)), none⟩]) .ret) .skip)
def vR14 : VC := .reg [⟨none, .mov (.v 4), none⟩, ⟨none, .mov (.v 4), none⟩, ⟨none, .nilck (.l 0), none⟩, ⟨none, .faddr 0 (.l 0), none⟩, ⟨none, .load none (.l 0), none⟩, ⟨none, .call F.redo_Sum [(.l 0)], none⟩,
  ⟨none, .call F.redo_writer_number [(.l 5), (.l 0), (.c (.int .i64 4))], none⟩]
def vR15 : VC := .reg [⟨none, .mov (.v 4), none⟩, ⟨none, .nilck (.l 0), none⟩, ⟨none, .faddr 0 (.l 0), none⟩, ⟨none, .load none (.l 0), none⟩, ⟨some 2, .mov (.l 0), none⟩, ⟨some 3, .mov (.c (.int .i64 0)), none⟩]

theorem kR0 : codeOf Tryz.prog ann F12 cR0 [] = some (vR0, []) := by kernel_rfl
theorem kC1 : codeOf Tryz.prog ann F12 cC1 [] = some (vC1, []) := by kernel_rfl
theorem kR4 : codeOf Tryz.prog ann F12 cR4 [] = some (vR4, []) := by kernel_rfl
theorem kL5 : codeOf Tryz.prog ann F12 cL5 [[5, 11]] = some (vL5, []) := by kernel_rfl
theorem kR10 : codeOf Tryz.prog ann F12 cR10 [] = some (vR10, []) := by kernel_rfl
theorem kC11 : codeOf Tryz.prog ann F12 cC11 [] = some (vC11, []) := by kernel_rfl
theorem kR14 : codeOf Tryz.prog ann F12 cR14 [] = some (vR14, []) := by kernel_rfl
theorem kR15 : codeOf Tryz.prog ann F12 cR15 [] = some (vR15, []) := by kernel_rfl
end Go.Vm.Redo
-- RE2: redo.Encode: the pure machine's steps through the pieces.
set_option maxRecDepth 100000
namespace Go.Vm.Redo
open Go Go.Vm

/-- Its memory: the record, the bytes, the writer. -/
def mW (x : Rec) (bs : List UInt8) : Mem := [.cells [.gs 1 bs.length], .buf 1 false (bytesV bs), .cells x.cells]
theorem mW_is (x : Rec) (bs : List UInt8) : IsW (mW x bs) 2 1 false bs := ⟨rfl, rfl, by omega⟩
theorem mW_put (x : Rec) (bs ys : List UInt8) : putW (mW x bs) 2 1 false ys = mW x ys := rfl
def u13 : List V := List.replicate 13 .undef

theorem eR0 (x : Rec) : ex (callL MM) 0 vR0 (x.toV :: List.replicate 12 .undef) [] = some (.nrm [x.toV, .ptr 0 0, .sl true 0 [], .int .i64 0, .undef, .undef, .undef, .undef, .undef, .undef, .undef, .undef, .undef] [.cells x.cells]) := by
  unfold Rec.toV
  simp only [Rec.cells]
  simp [vR0, List.replicate]
theorem eC1 (x : Rec) (hx : x.Fit) : ex (callL MM) 0 vC1 [x.toV, .ptr 0 0, .sl true 0 [], .int .i64 0, .undef, .undef, .undef, .undef, .undef, .undef, .undef, .undef, .undef] [.cells x.cells] =
    some (if validR x then .nrm [x.toV, .ptr 0 0, .sl true 0 [], .int .i64 0, .undef, .undef, .undef, .bool false, .undef, .undef, .undef, .undef, .undef] [.cells x.cells]
      else .ret [x.toV, .ptr 0 0, .sl true 0 [], .int .i64 2, .undef, .undef, .undef, .bool true, .undef, .undef, .undef, .undef, .undef] [.cells x.cells]) := by
  have hv := fun m => run_redo_Valid x hx m
  cases h : validR x <;> simp only [h] at hv <;> simp only [Rec.toV, Rec.cells] at * <;> simp [vC1, hv]
theorem eR4 (x : Rec) (bs : List UInt8) (hb : bs.length < 1000) : ex (callL MM) 0 vR4 [.undef, .ptr 0 0, .undef, .undef, .ptr 2 0, .undef, .undef, .undef, .undef, .undef, .undef, .undef, .undef] (mW x bs) =
    some (.nrm [.undef, .ptr 0 0, .undef, .undef, .ptr 2 0, .undef, .undef, .undef, .undef, .undef, .undef, .undef, .undef] (mW x (bs ++ beB x.op 1))) := by
  have h : callL MM F.redo_writer_number [.ptr 2 0, .int .i64 x.op, .int .i64 1] (mW x bs) = _ := number_ok _ 2 1 false bs (mW_is x bs) x.op 1 (by omega) (by omega)
  rw [mW_put] at h
  generalize bs ++ beB x.op 1 = ys at *
  simp only [mW, Rec.cells] at *
  simp [vR4, h]
theorem eL5 (x : Rec) (bs : List UInt8) (hw : x.weight < 100000) (hb : bs.length + (((fieldsOf x.op).getD []).flatMap (fieldB x)).length ≤ 65537) :
    ∃ w8 w9 w10, ex (callL MM) 0 vL5 [.undef, .ptr 0 0, .undef, .undef, .ptr 2 0, .undef, .undef, .undef, .undef, .undef, .undef, .undef, .undef] (mW x bs) =
    some (.nrm [.undef, .ptr 0 0, .undef, .undef, .ptr 2 0, .undef, .undef, .undef, w8, w9, w10, .bool false, .undef] (mW x (bs ++ ((fieldsOf x.op).getD []).flatMap (fieldB x)))) := by
  have hF := fun m => run_redo_fields x.op m
  obtain ⟨nl, sz, hfv, hz⟩ := fieldsV_shape x.op
  rw [hfv] at hF
  have hshort := fields_getD_short x.op
  generalize (fieldsOf x.op).getD [] = l at *
  have hq := loop_each (cf := callL MM) (b := 0) (L := 3) (kill := [5, 11]) (c := vL5b) l
    (fun i (_ : List UInt8) => [.undef, .ptr 0 0, .undef, .undef, .ptr 2 0, .undef, .undef, .undef, .sl nl sz (l.map (.int .i64)), .int .i64 l.length, .int .i64 i, .undef, .undef])
    (fun _ ys => mW x ys) (fun i ys => ys.length + ((l.drop i).flatMap (fieldB x)).length ≤ 65537)
    (fun rest _ ys => .exit 0 [.undef, .ptr 0 0, .undef, .undef, .ptr 2 0, .undef, .undef, .undef, .sl nl sz (l.map (.int .i64)), .int .i64 l.length, .int .i64 l.length, .bool false, .undef] (mW x (ys ++ rest.flatMap (fieldB x))))
    (fun ys _ => ⟨by simp [vL5b], rfl⟩)
    (fun i f rest ys hf hd hi hI => .inr ⟨ys ++ fieldB x f, by
      have hs : sz = 1 := by
        rcases hz with h | h
        · exact h
        · rw [h] at hf; simp at hf
      subst hs
      have h : callL MM F.redo_writer_field [.ptr 2 0, x.toV, .int .i64 f] (mW x ys) = _ := field_ok _ 2 1 false ys (mW_is x ys) x f (by omega)
      rw [mW_put] at h
      have hw := wrap_succ (show i < 4611686018427387904 by omega)
      generalize ys ++ fieldB x f = zs at *
      simp only [mW, Rec.cells, Rec.toV] at *
      simp [vL5b, int_lt hi, hf, h, hw], by
      rw [hd, List.flatMap_cons, List.length_append] at hI
      have hn : l.drop (i + 1) = rest := by rw [← List.drop_drop, hd]; rfl
      rw [hn, List.length_append]; omega, by simp [List.append_assoc]⟩)
    bs [.undef, .ptr 0 0, .undef, .undef, .ptr 2 0, .undef, .undef, .undef, .sl nl sz (l.map (.int .i64)), .int .i64 l.length, .int .i64 0, .undef, .undef] (mW x bs) (by simpa using hb) (by simp [mW, Rec.cells])
  refine ⟨.sl nl sz (l.map (.int .i64)), .int .i64 l.length, .int .i64 l.length, ?_⟩
  generalize bs ++ l.flatMap (fieldB x) = zs at *
  simp only [mW, Rec.cells, List.length_cons, List.length_nil] at *
  simp [vL5, hF, hq]
theorem eR10 (x : Rec) (bs : List UInt8) (hb : bs.length < 100000000) (w8 w9 w10 : V) : ex (callL MM) 0 vR10 [.undef, .ptr 0 0, .undef, .undef, .ptr 2 0, .undef, .undef, .undef, w8, w9, w10, .bool false, .undef] (mW x bs) =
    some (.nrm [.undef, .ptr 0 0, .undef, .undef, .ptr 2 0, .undef, .int .i64 (bs.length + 2 : Nat), .undef, w8, w9, w10, .bool false, .undef] (mW x bs)) := by
  have w1 : IntKind.i64.wrap ((bs.length : Int) + 4) = (bs.length : Int) + 4 := wrap64_id (by omega) (by omega)
  have w2 : IntKind.i64.wrap ((bs.length : Int) + 4 - 2) = ((bs.length + 2 : Nat) : Int) := by rw [wrap64_id (by omega) (by omega)]; omega
  simp only [mW, Rec.cells]
  generalize hz : ((bs.length + 2 : Nat) : Int) = z at *
  simp [vR10, w1, w2]
theorem eC11 (x : Rec) (bs : List UInt8) (n : Int) (hn : n ≤ 65535) (w8 w9 w10 : V) : ex (callL MM) 0 vC11 [.undef, .ptr 0 0, .undef, .undef, .ptr 2 0, .undef, .int .i64 n, .undef, w8, w9, w10, .bool false, .undef] (mW x bs) =
    some (.nrm [.undef, .ptr 0 0, .undef, .undef, .ptr 2 0, .undef, .int .i64 n, .undef, w8, w9, w10, .bool false, .bool false] (mW x bs)) := by
  have h : ¬ (65535 < n) := by omega
  simp [vC11, h]
/-- Its memory once it begins anew: the bytes, the writer. -/
def mV (bs : List UInt8) : Mem := [.cells [.gs 0 bs.length], .buf 1 false (bytesV bs)]
theorem mV_is (bs : List UInt8) : IsW (mV bs) 1 0 false bs := ⟨rfl, rfl, by omega⟩
theorem mV_put (bs ys : List UInt8) : putW (mV bs) 1 0 false ys = mV ys := rfl
theorem eR14 (bs : List UInt8) (hb : bs.length < 1000000) : ex (callL MM) 0 vR14 [.undef, .undef, .undef, .undef, .ptr 1 0, .undef, .undef, .undef, .undef, .undef, .undef, .undef, .undef] (mV bs) =
    some (.nrm [.undef, .undef, .undef, .undef, .ptr 1 0, .undef, .undef, .undef, .undef, .undef, .undef, .undef, .undef] (mV (bs ++ beB (sumB bs) 4))) := by
  have h : callL MM F.redo_writer_number [.ptr 1 0, .int .i64 (sumB bs), .int .i64 4] (mV bs) = _ := number_ok _ 1 0 false bs (mV_is bs) (sumB bs) 4 (by omega) (by omega)
  rw [mV_put] at h
  have hs := fun m => run_redo_Sum false bs (by omega) m
  have tk : List.take bs.length (bytesV bs) = bytesV bs := by rw [bytesV_take, List.take_length]
  generalize bs ++ beB (sumB bs) 4 = zs at *
  simp only [mV] at *
  simp [vR14, h, hs, tk]
theorem eR15 (bs : List UInt8) : ex (callL MM) 0 vR15 [.undef, .undef, .undef, .undef, .ptr 1 0, .undef, .undef, .undef, .undef, .undef, .undef, .undef, .undef] (mV bs) =
    some (.nrm [.undef, .undef, .gs 0 bs.length, .int .i64 0, .ptr 1 0, .undef, .undef, .undef, .undef, .undef, .undef, .undef, .undef] (mV bs)) := by
  simp only [mV]
  simp [vR15]
end Go.Vm.Redo
