/- Part 7 of the ground under the rows: Calls. -/
import Derived.Test.YtcifkahbdimkbaaGreatDoorM06
import Derived.Laws.Sem
set_option linter.unusedSimpArgs false
set_option linter.unusedVariables false
-- VmL: Calls.
namespace Go.Vm
open Go Go.RowKit

section
variable {P : Program} {w0 : World} {φ φ' : Phi} {g g' : List GO} {m m' : Mem} {w w' : World} {a : Act}
variable {A : Ann} {F : FAnn} {cf : CF} {vars : List V}

theorem loadVar_known {t : TypeId} {sz : Option Nat} (hs : szT P t = some sz) {ad : Addr} {cs : List V} {l : List Value} {off : Nat} (hr : RepL φ g m cs l) (h1c : ∀ x ∈ l, x.oneCell' = true) (hc : ∀ j u, l[j]? = some u → w.cell? (ad.add j) = some u)
    {v : V} (hpart : part cs off sz = some v) : ∃ cv, (loadVar t (ad.add off)).run P w = .ok cv w ∧ Rep φ g m v cv := by
  obtain ⟨d, i, hd, hinf, rfl⟩ := szT_some hs
  have hl := hr.length
  cases ha : aggT P t with
  | true =>
    rw [ha] at hpart
    simp only [if_true, part] at hpart
    split at hpart
    · rename_i hb
      cases hpart
      have hload : (loadCells (ad.add off) i.size).run P w = .ok ((l.drop off).take i.size).toArray w := by
        have hlen : ((l.drop off).take i.size).length = i.size := by simp; omega
        have := run_loadCells_list (P := P) w (ad.add off) ((l.drop off).take i.size) (fun j u hj => by
          rw [List.getElem?_take] at hj
          split at hj
          · rw [List.getElem?_drop] at hj
            rw [Addr.add_add]; exact hc _ _ hj
          · simp at hj)
        rw [hlen] at this; exact this
      exact ⟨.agg ((l.drop off).take i.size).toArray, by simp [loadVar, run_isAgg hd, ha, sizeOf, typeInfo, hinf, hload], _, rfl, (hr.drop off).take _, fun x hx => h1c x (List.mem_of_mem_drop (List.mem_of_mem_take hx))⟩
    · simp at hpart
  | false =>
    rw [ha] at hpart
    simp only [Bool.false_eq_true, if_false, part] at hpart
    obtain ⟨c, hc1, hc2⟩ := hr.get hpart
    exact ⟨c, by simp [loadVar, run_isAgg hd, ha, hc _ _ hc1], hc2⟩

def res1 (tmps : Array Value) : ResultVar → Sem Value
  | .tmp t => pure (tmps.getD t undef)
  | .cell b t => do loadVar t (← asAddr (tmps.getD b undef))

theorem results_eq (fn : Func) (tmps : Array Value) : results fn tmps = (do let vs ← fn.results.mapM (res1 tmps); pure (if h : vs.size = 1 then vs[0] else .tuple vs)) := rfl

theorem resOf_run (hi : Inv w0 φ g m w) (hv : VarsOK F φ g m vars a) {r : ResultVar} {vr : VRes} (h : resultOf P F r = some vr) {v : V} (hr : resOf vars m vr = some v) :
    ∃ cv, (res1 a.tmps r).run P w = .ok cv w ∧ Rep φ g m v cv := by
  cases r with
  | tmp t =>
    simp only [resultOf] at h
    obtain ⟨i, h1, rfl⟩ := omap h
    by_cases hl : F.lin = true
    · rw [if_pos hl] at hr
      simp only [resOf] at hr
      split at hr
      · rename_i k n he
        cases hr
        have := hv.2.2 t i h1
        rw [he] at this
        exact ⟨_, rfl, this⟩
      · exact ⟨_, rfl, Rep.shut _ _ _ (hv.2.2 t i h1) hr⟩
    · rw [if_neg hl] at hr
      exact ⟨_, rfl, Rep.shut _ _ _ (hv.2.2 t i h1) hr⟩
  | cell b t =>
    simp only [resultOf] at h
    obtain ⟨i, h1, h⟩ := obind h
    obtain ⟨n, h2, rfl⟩ := omap h
    simp only [resOf] at hr
    split at hr
    · rename_i rr off he
      have h3 := hv.2.2 b i h1
      rw [he] at h3
      obtain ⟨blk, k1, k2⟩ := h3
      split at hr
      · rename_i cs hcs
        obtain ⟨v0, hp, hs⟩ := obind hr
        obtain ⟨blk', cvs, q1, q2, q3, q4, q5⟩ := hi.cells rr cs hcs
        rw [k1] at q1; cases q1
        obtain ⟨cv, l1, l2⟩ := loadVar_known (w := w) (ad := ⟨blk, 0, none⟩) h2 q2 q3 (fun j u hj => by rw [add_mk, Nat.zero_add]; exact q4 j u hj) hp
        refine ⟨cv, ?_, Rep.shut _ _ _ l2 hs⟩
        rw [add_mk, Nat.zero_add] at l1
        simp [res1, k2, asAddr, l1]
      · simp at hr
    · simp at hr

theorem ress_run (hi : Inv w0 φ g m w) (hv : VarsOK F φ g m vars a) : ∀ (l : List ResultVar) (rs : List VRes) (vs : List V), mapM' (resultOf P F) l = some rs → ressOf vars m rs = some vs →
    ∃ cvs : List Value, (l.mapM (res1 a.tmps)).run P w = .ok cvs w ∧ RepL φ g m vs cvs
  | [], rs, vs, h, hr => by
    simp only [mapM', Option.some.injEq] at h; subst h
    simp only [ressOf, Option.some.injEq] at hr; subst hr
    exact ⟨[], rfl, RepL.nil⟩
  | r :: l, rs, vs, h, hr => by
    simp only [mapM'] at h
    obtain ⟨vr, h1, h⟩ := obind h
    obtain ⟨rs', h2, rfl⟩ := omap h
    simp only [ressOf] at hr
    obtain ⟨v, k1, hr⟩ := obind hr
    obtain ⟨vs', k2, rfl⟩ := omap hr
    obtain ⟨cv, q1, q2⟩ := resOf_run hi hv h1 k1
    obtain ⟨cvs, q3, q4⟩ := ress_run hi hv l rs' vs' h2 k2
    refine ⟨cv :: cvs, ?_, RepL.cons q2 q4⟩
    rw [List.mapM_cons, Sem.run_bind, q1, Result.andThen_ok, Sem.run_bind, q3]
    rfl

theorem results_run (hi : Inv w0 φ g m w) (hv : VarsOK F φ g m vars a) {fn : Func} {rs : List VRes} (h : mapM' (resultOf P F) fn.results.toList = some rs) {vs : List V} (hr : ressOf vars m rs = some vs) :
    ∃ cv, (results fn a.tmps).run P w = .ok cv w ∧ Rep φ g m (retVal vs) cv := by
  obtain ⟨cvs, h1, h2⟩ := ress_run hi hv _ _ _ h hr
  refine ⟨if h : cvs.length = 1 then cvs[0] else .tuple cvs.toArray, ?_, ?_⟩
  · rw [results_eq, Array.mapM_eq_mapM_toList]
    rw [Sem.run_bind, Sem.run_map]
    rw [h1]
    simp only [Result.andThen_ok]
    by_cases hc : cvs.length = 1
    · simp [hc]
    · simp [hc]
  · have hl := h2.length
    match vs, cvs, h2 with
    | [], [], h2 => exact ⟨[], rfl, h2⟩
    | [v], [c], h2 => 
      obtain ⟨x, cs, e, h3, h4⟩ := h2
      cases e
      exact h3
    | v :: v' :: vs, c :: c' :: cs, h2 => 
      have : ¬ (c :: c' :: cs).length = 1 := by simp
      simp only [this, dif_neg, not_false_eq_true]
      exact ⟨_, rfl, h2⟩
    | [], _ :: _, h2 => simp at hl
    | _ :: _, [], h2 => simp at hl
    | [_], _ :: _ :: _, h2 => simp at hl
    | _ :: _ :: _, [_], h2 => simp at hl

/-- A machine that stands for a program. -/
structure MachOK (P : Program) (w0 : World) (A : Ann) (M : Machine') : Prop where
  funs : ∀ f F, M.funs f = some F → funOf P A f = some F
  prims : ∀ f p, M.prims f = some p → CFok P w0 A (fun f' => if f' = f then p else fun _ _ => none) ∧ CFpure (fun f' => if f' = f then p else fun _ _ => none)

theorem getD_append {l k : List V} {i : Nat} (h : i < l.length) : (l ++ k).getD i .undef = l.getD i .undef := by
  simp [List.getD, List.getElem?_append_left h]

theorem Inv.closed (hi : Inv w0 φ g m w) : Closed m.length m := by
  intro r hr cs hl
  obtain ⟨blk, cvs, h1, h2, _⟩ := hi.cells r cs hl
  have := RepL.under _ _ h2
  rwa [hi.len] at this

structure FunParts (P : Program) (A : Ann) (f : FuncId) (Fv : VFun) (fn : Func) (c : Code) (F : FAnn) (ks' : List (List Nat)) : Prop where
  func : P.funcs[f]? = some fn
  body : fn.body = some c
  ann : F = { A.fns f with n := fn.ntmps }
  slots : F.slots.take Fv.params = List.range Fv.params
  fits : Fv.params ≤ fn.ntmps
  name : (fn.name == "runtime.NumGoroutine") = false
  code : codeOf P A F c F.kills = some (Fv.body, ks')
  res : mapM' (resultOf P F) fn.results.toList = some Fv.res
  slotsV : Fv.slots = F.slots

theorem funOf_parts {f : FuncId} {Fv : VFun} (h : funOf P A f = some Fv) : ∃ fn c F ks', FunParts P A f Fv fn c F ks' := by
  unfold funOf at h
  split at h
  · simp at h
  · rename_i fn hf
    split at h
    · simp at h
    · rename_i c hb
      simp only at h
      split at h
      · rename_i hc
        simp only [Bool.and_eq_true, beq_iff_eq, decide_eq_true_eq, bne_iff_ne, ne_eq] at hc
        obtain ⟨⟨⟨⟨h1, h2⟩, h3⟩, h4⟩, h5⟩ := hc
        obtain ⟨⟨vc, ks'⟩, k1, h⟩ := obind h
        obtain ⟨rs, k2, rfl⟩ := omap h
        exact ⟨fn, c, _, ks', ⟨hf, hb, rfl, h1, h4, by simpa using h5, k1, k2, rfl⟩⟩
      · simp at h

theorem callF_ok {M : Machine'} (hM : MachOK P w0 A M) (hdr : ∀ F cf, CFok P w0 A cf → CFpure cf → DrawOK P w0 A F cf) : ∀ n, CFok P w0 A (callF M n) ∧ CFpure (callF M n)
  | 0 => ⟨fun f args m out h => by simp [callF] at h, fun f args m out h => by simp [callF] at h⟩
  | n + 1 => by
    obtain ⟨ih1, ih2⟩ := callF_ok hM hdr n
    constructor
    · intro f args m out h
      simp only [callF] at h
      split at h
      · rename_i p hp
        exact (hM.prims f p hp).1 f args m out (by simpa using h)
      · split at h
        · rename_i Fv hV
          split at h
          · rename_i hlen
            obtain ⟨rs, h1, h2⟩ := obind h
            obtain ⟨fn, c, F, ks', fp⟩ := funOf_parts (hM.funs f Fv hV)
            refine ⟨⟨fn, fp.func, fp.name, by simp [fp.body]⟩, fun φ g w cargs hi hg hr => ?_⟩
            have hcl := hi.closed
            obtain ⟨p1, p2⟩ := exec_pure ih2 n Fv.body _ _ _ (Nat.le_refl _) h1
            have hcl' := p2 _ (Nat.le_refl _) hcl
            refine calls_of_wp fp.func fp.body ?_
            refine exec_ok (hdr F _ ih1 ih2) ih1 ih2 c F.kills Fv.body ks' fp.code _ m rs g φ _ w _ h1 (Nat.le_refl _) hcl hi hg ?_ ?_
            · -- entry
              have hal := hr.length
              refine ⟨?_, rfl, ?_⟩
              · have : F.n = fn.ntmps := by rw [fp.ann]
                have := fp.fits
                simp; omega
              · intro t i hs
                unfold enter
                by_cases hin : i < args.length
                · rw [getD_append hin]
                  have hti : t = i := by
                    simp only [List.idxOf?, List.findIdx?_eq_some_iff_getElem, beq_iff_eq] at hs
                    obtain ⟨h1, h2, _⟩ := hs
                    have h3 : (F.slots.take Fv.params)[i]? = some t := by
                      rw [List.getElem?_take]; simp [← hlen, hin, h1, h2]
                    rw [fp.slots, List.getElem?_range (by omega)] at h3
                    exact (Option.some.inj h3).symm
                  subst hti
                  obtain ⟨c', hc1, hc2⟩ := hr.get (i := t) (v := args.getD t .undef) (by simp [List.getD, hin])
                  have : ((cargs.toArray ++ Array.replicate (fn.ntmps - cargs.toArray.size) undef).getD t undef) = c' := by
                    have hlt : t < cargs.length := by omega
                    rw [Array.getD_eq_getD_getElem?, Array.getElem?_append_left (by simpa using hlt)]
                    simp [hc1]
                  rw [this]
                  exact hc2
                · have : (args ++ List.replicate (Fv.slots.length - args.length) V.undef).getD i .undef = .undef := by
                    simp only [List.getD, List.getElem?_append_right (Nat.le_of_not_lt hin), List.getElem?_replicate]
                    split <;> rfl
                  rw [this]
                  exact rep_undef
            · -- leaving
              have fin : ∀ (vars : List V) (m' : Mem), m.length ≤ m'.length → Closed m.length m' → (ressOf vars m' Fv.res).bind (fun vs => if V.underL m.length vs then some (Out.ret vs (dropTo m.length m')) else none) = some out → ∀ a w' φ' g', Goes w0 φ g m φ' g' m' w' →
                  VarsOK F φ' g' m' vars a → a.defers = [] ∧ ∃ v, (results fn a.tmps).run P w' = .ok v w' ∧ OutPost w0 φ g m out (.returned v) w' := by
                intro vars m' q1 q2 q3 a w' φ' g' hgo hv
                refine ⟨hv.2.1, ?_⟩
                obtain ⟨vs, k1, k2⟩ := obind q3
                split at k2
                · rename_i hu
                  cases k2
                  obtain ⟨cv, l1, l2⟩ := results_run hgo.inv hv fp.res k1
                  refine ⟨cv, l1, cv, φ', dropTo m.length g', rfl, ⟨hgo.inv.drop q2, hgo.ext, hgo.le.trans (Le.drop _ _ _)⟩, ?_⟩
                  refine Rep.mono (Ext.refl φ') (Le.drop _ _ _) _ _ ?_ l2
                  unfold retVal
                  split
                  · simp only [V.underL, Bool.and_true] at hu; exact hu
                  · simpa [V.under] using hu
                · simp at k2
              cases rs with
              | nrm vars m' => 
                simp only [leave] at h2
                exact fun a w' φ' g' hgo hv => fin vars m' p1 hcl' h2 a w' φ' g' hgo hv
              | ret vars m' =>
                simp only [leave] at h2
                exact fun a w' φ' g' hgo hv => fin vars m' p1 hcl' h2 a w' φ' g' hgo hv
              | exit id vars m' => simp [leave] at h2
              | pan v m' =>
                simp only [leave] at h2
                intro a w' φ' g' cv hgo _ hd hrep
                refine ⟨hd, ?_⟩
                obtain ⟨v', k1, k2⟩ := obind h2
                split at k2
                · rename_i hu
                  cases k2
                  exact ⟨cv, φ', dropTo m.length g', rfl, ⟨hgo.inv.drop hcl', hgo.ext, hgo.le.trans (Le.drop _ _ _)⟩, Rep.mono (Ext.refl φ') (Le.drop _ _ _) _ _ hu (Rep.shut _ _ _ hrep k1)⟩
                · simp at k2
          · simp at h
        · simp at h
    · intro f args m out h
      simp only [callF] at h
      split at h
      · rename_i p hp
        exact (hM.prims f p hp).2 f args m out (by simpa using h)
      · split at h
        · split at h
          · obtain ⟨rs, h1, h2⟩ := obind h
            obtain ⟨p1, p2⟩ := exec_pure ih2 n _ _ _ _ (Nat.le_refl _) h1
            have key : out.mem = dropTo m.length rs.mem := by
              have done : ∀ {c : Bool} {o : Out}, (if c then some o else none) = some out → o.mem = out.mem := by
                intro c o hh; cases c <;> simp at hh; rw [hh]
              unfold leave at h2
              split at h2
              · obtain ⟨vs, _, k2⟩ := obind h2; exact (done k2).symm
              · obtain ⟨vs, _, k2⟩ := obind h2; exact (done k2).symm
              · obtain ⟨vs, _, k2⟩ := obind h2; exact (done k2).symm
              · simp at h2
            rw [key]
            refine ⟨by rw [length_dropTo]; omega, fun B hB hc => (p2 B hB hc).drop hB⟩
          · simp at h
        · simp at h
end
end Go.Vm
-- VmKa: What an operation does hangs on what it looks at.
namespace Go.Vm
open Go Go.RowKit

section
variable {e e' : Opd → V} {cf : CF} {b : Nat} {m m' : Mem}

theorem map_congr_opds {xs : List Opd} (h : ∀ y ∈ xs, e y = e' y) : xs.map e = xs.map e' := List.map_congr_left h

theorem pureOp_congr {op : VOp} (h : ∀ y ∈ op.opds, e y = e' y) : pureOp e op = pureOp e' op := by
  cases op
  case build zero parts =>
    have : parts.map (fun (i, n, x) => (i, n, e x)) = parts.map (fun (i, n, x) => (i, n, e' x)) := List.map_congr_left fun p hp => by
      have := h p.2.2 (by simp only [VOp.opds]; exact List.mem_map.2 ⟨p, hp, rfl⟩)
      obtain ⟨i, n, x⟩ := p
      simp only at this ⊢
      rw [this]
    simp only [pureOp, this]
  case mkfn f a c =>
    have h1 : a.map e = a.map e' := map_congr_opds fun y hy => h y (by simp [VOp.opds, hy])
    have h2 : c.map e = c.map e' := map_congr_opds fun y hy => h y (by simp [VOp.opds, hy])
    simp only [pureOp, h1, h2]
  case mksl sz xs =>
    have h1 : xs.map e = xs.map e' := map_congr_opds fun y hy => h y (by simp [VOp.opds, hy])
    simp only [pureOp, h1]
  case slice s x lo hi mx =>
    have h0 := h x (by simp [VOp.opds])
    have h1 : lo.map e = lo.map e' := by cases lo with | none => rfl | some y => simp [h y (by simp [VOp.opds])]
    have h2 : hi.map e = hi.map e' := by cases hi with | none => rfl | some y => simp [h y (by simp [VOp.opds])]
    have h3 : mx.map e = mx.map e' := by cases mx with | none => rfl | some y => simp [h y (by simp [VOp.opds])]
    simp only [pureOp, h0, h1, h2, h3]
  all_goals first
    | rfl
    | (simp only [VOp.opds, List.mem_cons, List.not_mem_nil, or_false, forall_eq_or_imp, forall_eq] at h
       simp only [pureOp, h])

theorem readOp_congr {op : VOp} (h : ∀ y ∈ op.opds, e y = e' y) : readOp m e op = readOp m e' op := by
  cases op
  case slice s x lo hi mx =>
    have h0 := h x (by simp [VOp.opds])
    have h1 : lo.map e = lo.map e' := by cases lo with | none => rfl | some y => simp [h y (by simp [VOp.opds])]
    have h2 : hi.map e = hi.map e' := by cases hi with | none => rfl | some y => simp [h y (by simp [VOp.opds])]
    have h3 : mx.map e = mx.map e' := by cases mx with | none => rfl | some y => simp [h y (by simp [VOp.opds])]
    cases s <;> simp only [readOp, h0, h1, h2, h3]
  case toStr s x => 
    have h0 := h x (by simp [VOp.opds])
    cases s <;> simp only [readOp, h0]
  case eqnil k x ng => 
    have h0 := h x (by simp [VOp.opds])
    cases k <;> simp only [readOp, h0]
  all_goals first
    | rfl
    | (simp only [VOp.opds, List.mem_cons, List.not_mem_nil, or_false, forall_eq_or_imp, forall_eq] at h
       simp only [readOp, h])

theorem effOp_congr {op : VOp} (h : ∀ y ∈ op.opds, e y = e' y) : effOp b m e op = effOp b m e' op := by
  cases op
  case mkbuf sz xs =>
    have h1 : xs.map e = xs.map e' := map_congr_opds fun y hy => h y (by simp [VOp.opds, hy])
    simp only [effOp, h1]
  all_goals first
    | rfl
    | (simp only [VOp.opds, List.mem_cons, List.not_mem_nil, or_false, forall_eq_or_imp, forall_eq] at h
       simp only [effOp, h])

theorem opRun_congr {op : VOp} (h : ∀ y ∈ op.opds, e y = e' y) : opRun cf b m e op = opRun cf b m e' op := by
  unfold opRun
  rw [pureOp_congr h, readOp_congr h, effOp_congr h]
  cases op <;> try rfl
  case call f xs =>
    have h1 : xs.map e = xs.map e' := map_congr_opds fun y hy => h y (by simp [VOp.opds, hy])
    simp only [h1]
  case callg sz f xs =>
    have h1 : xs.map e = xs.map e' := map_congr_opds fun y hy => h y (by simp [VOp.opds, hy])
    simp only [h1]
  case callv f xs =>
    have h0 := h f (by simp [VOp.opds])
    have h1 : xs.map e = xs.map e' := map_congr_opds fun y hy => h y (by simp [VOp.opds, hy])
    simp only [h0, h1]
  case panic x =>
    have h0 := h x (by simp [VOp.opds])
    simp only [h0]

theorem readOp_mayRead {op : VOp} {v : V} (h : readOp m e op = some v) : mayRead op = true := by
  cases op <;> first | rfl | simp [readOp] at h

theorem eff_notPure {op : VOp} (h : isEff op = true) : pureOp e op = none := by
  cases op <;> first | rfl | simp [isEff] at h
theorem eff_notRead {op : VOp} (h : isEff op = true) : readOp m e op = none := by
  cases op <;> first | rfl | simp [isEff] at h

/-- Neither pure nor reading, and told: an effect. -/
theorem isEff_of {op : VOp} {r : OpOut} (hp : pureOp e op = none) (hr : readOp m e op = none) (h : opRun cf b m e op = some r) : isEff op = true := by
  unfold opRun at h
  rw [hp, hr] at h
  cases op <;> first | rfl | simp [effOp] at h

theorem seal_gs_look {k n : Nat} (h : look m k = look m' k) : (V.gs k n).shut m = (V.gs k n).shut m' := by
  simp only [V.shut, h]

/-- A read of memory that is the same where it looks. -/
theorem readOp_agree {op : VOp} (h : ∀ r ∈ rlv e op, look m r = look m' r) : readOp m e op = readOp m' e op := by
  cases op
  case load sz a =>
    simp only [readOp]
    simp only [rlv] at h
    split
    · rfl
    · rename_i r o he
      rw [he] at h
      rw [h r (by simp)]
    · rfl
  case iaddr sz x i =>
    simp only [readOp]
    simp only [rlv] at h
    split
    · rename_i k n ik j hk hj
      rw [hk] at h
      rw [h k (by simp [V.lvls])]
    · rfl
  case toStr s x =>
    cases s
    · simp only [readOp]
      simp only [rlv] at h
      split
      · rename_i k n hk
        rw [hk] at h
        rw [h k (by simp [V.lvls])]
      · rfl
    · rfl
  case slice s x lo hi mx =>
    cases s
    · rfl
    · simp only [readOp]
      simp only [rlv] at h
      split
      · rename_i k n hk
        rw [hk] at h
        rw [seal_gs_look (h k (by simp [V.lvls]))]
      · rfl
  case eqnil k x ng =>
    cases k
    · simp only [readOp]
      simp only [rlv] at h
      split
      · rename_i k n hk
        rw [hk] at h
        rw [h k (by simp [V.lvls])]
      · rfl
    · rfl
    · rfl
  all_goals rfl
end
end Go.Vm
