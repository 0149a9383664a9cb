/- Part 4 of the ground under the rows: One operation, continued: arithmetic, comparisons, parts of values and of strings, addresses. -/
import Derived.Test.YtcifkahbdimkbaaGreatDoorM03
import Derived.Laws.Strings
import Derived.Laws.StructEq
import Derived.Lib.ConvBytes
set_option linter.unusedSimpArgs false
set_option linter.unusedVariables false
-- VmP: One operation, continued: arithmetic, comparisons, parts of values and of strings, addresses.
namespace Go.Vm
open Go Go.RowKit

section
variable {P : Program} {w0 : World} {φ : Phi} {g : List GO} {m : Mem} {w : World} {ρ : Operand → Value} {o : Oper}
variable {A : Ann} {F : FAnn} {past : List (Option Tmp)} {e : Opd → V}

theorem run_binInt {op : BinOp} {k : IntKind} {a b : Int} {t : TypeId} {v : V} (h : binInt op k a b = some v) : ∃ cv, (binOp op t (.int k a) (.int k b)).run P w = .ok cv w ∧ Rep φ g m v cv := by
  cases op <;> simp only [binInt] at h
  case shl => simp at h
  case shr => simp at h
  case quo =>
    split at h
    · simp at h
    · rename_i hb; cases h; exact ⟨_, by simp [binOp, Op.intDiv, hb], rfl⟩
  case rem =>
    split at h
    · simp at h
    · rename_i hb; cases h; exact ⟨_, by simp [binOp, Op.intDiv, hb], rfl⟩
  case and => simp [intBits] at h; subst h; exact ⟨_, by simp [binOp, Op.intBits], rfl⟩
  case or => simp [intBits] at h; subst h; exact ⟨_, by simp [binOp, Op.intBits], rfl⟩
  case xor => simp [intBits] at h; subst h; exact ⟨_, by simp [binOp, Op.intBits], rfl⟩
  case andNot => simp [intBits] at h; subst h; exact ⟨_, by simp [binOp, Op.intBits], rfl⟩
  all_goals (cases h; exact ⟨_, by simp [binOp, Op.intArith, Op.intCmp], rfl⟩)

theorem run_binStr {op : BinOp} {a b : List UInt8} {t : TypeId} {v : V} (h : binStr op a b = some v) : ∃ cv, (binOp op t (.string ⟨a.toArray⟩) (.string ⟨b.toArray⟩)).run P w = .ok cv w ∧ Rep φ g m v cv := by
  cases op <;> simp only [binStr] at h <;> first | (simp at h; done) | skip
  case add =>
    split at h
    · simp at h
    · rename_i hb
      cases h
      refine ⟨.string ⟨(a ++ b).toArray⟩, ?_, rfl⟩
      have : ¬ (((⟨a.toArray⟩ : ByteArray).size + (⟨b.toArray⟩ : ByteArray).size : Nat) : Int) > IntKind.i64.max := by simpa using hb
      simp only [binOp, Op.stringOp, if_neg this]
      have e : (ByteArray.mk a.toArray ++ ByteArray.mk b.toArray) = ByteArray.mk (a ++ b).toArray := by
        apply ByteArray.ext; simp
      rw [e]; rfl
  all_goals (cases h; refine ⟨.bool _, ?_, rfl⟩; simp [binOp, Op.stringOp, ByteArray.toList_mk, bytesLess])

theorem op_bin (hi : Inv w0 φ g m w) (ht : Told A F past φ g m e ρ) {t t' : TypeId} {op : BinOp} {x z : Operand} (ho : o.op = .binOp op t x z t') {y y' : Opd} (hx : opdOf A F past x = some y) (hz : opdOf A F past z = some y')
    {v : V} (hv : pureOp e (.bin op y y') = some v) : OpDone P w0 ρ o φ g m w v m := by
  have h1 := ht x y hx
  have h2 := ht z y' hz
  simp only [pureOp, binV] at hv
  have fin : (∀ c, ρ x ≠ .agg c) → (ρ x ≠ .nilIface) → (∃ cv, (binOp op t (ρ x) (ρ z)).run P w = .ok cv w ∧ Rep φ g m v cv) → OpDone P w0 ρ o φ g m w v m := by
    rintro n1 n4 ⟨cv, hr, hrep⟩
    exact OpDone.same hi (cv := cv) (by simp [execOp, ho, eqGuard_ok _ _ n1 n4, hr]) hrep
  split at hv
  · rename_i k a k' b he he'
    rw [he] at h1; rw [he'] at h2
    have h1 := rep_int h1; have h2 := rep_int h2
    rw [h1, h2] at fin
    split at hv
    · simp at hv
    · rename_i hb
      cases hv
      exact fin (by simp) (by simp) ⟨_, by simp [binOp, Op.shift, hb], rfl⟩
  · rename_i k a k' b he he'
    rw [he] at h1; rw [he'] at h2
    have h1 := rep_int h1; have h2 := rep_int h2
    rw [h1, h2] at fin
    split at hv
    · simp at hv
    · rename_i hb
      cases hv
      exact fin (by simp) (by simp) ⟨_, by simp [binOp, Op.shift, hb], rfl⟩
  · rename_i n1 n2 k a k' b _ he he'
    rw [he] at h1; rw [he'] at h2
    have h1 := rep_int h1; have h2 := rep_int h2
    rw [h1, h2] at fin
    split at hv
    · rename_i hk; subst hk
      exact fin (by simp) (by simp) (run_binInt hv)
    · simp at hv
  · rename_i a b he he'
    rw [he] at h1; rw [he'] at h2
    have h1 := rep_str h1; have h2 := rep_str h2
    rw [h1, h2] at fin
    exact fin (by simp) (by simp) (run_binStr hv)
  · simp at hv

theorem run_isAgg {t : TypeId} {d : TypeDesc} (hd : P.underlying t = some d) (w : World) : (isAgg t).run P w = .ok (aggT P t) w := by
  unfold isAgg aggT
  simp only [Sem.run_bind, run_underlying hd, Result.andThen_ok, hd]
  cases d <;> simp

theorem szT_some {t : TypeId} {sz : Option Nat} (h : szT P t = some sz) : ∃ d i, P.underlying t = some d ∧ P.info? t = some i ∧ sz = if aggT P t then some i.size else none := by
  unfold szT szOf at h
  obtain ⟨d, hd, h⟩ := obind h
  obtain ⟨n, hn, h⟩ := omap h
  obtain ⟨i, hi, rfl⟩ := omap hn
  exact ⟨d, i, hd, hi, h.symm⟩

theorem part_rep {cs : List V} {l : List Value} (h : RepL φ g m cs l) (h1 : ∀ x ∈ l, x.oneCell' = true) {t : TypeId} {sz : Option Nat} (hs : szT P t = some sz) {off : Nat} {v : V} (hp : part cs off sz = some v) (w : World) :
    ∃ cv, (Go.part t l.toArray off).run P w = .ok cv w ∧ Rep φ g m v cv := by
  obtain ⟨d, i, hd, hi, rfl⟩ := szT_some hs
  have hl := h.length
  unfold Go.part
  simp only [Sem.run_bind, run_isAgg hd, Result.andThen_ok]
  cases ha : aggT P t with
  | true =>
    rw [ha] at hp
    simp only [if_true, part] at hp
    split at hp
    · rename_i hb
      cases hp
      refine ⟨.agg (l.toArray.extract off (off + i.size)), by simp [sizeOf, typeInfo, hi], ⟨(l.drop off).take i.size, ?_, (h.drop off).take _, fun x hx => h1 x (List.mem_of_mem_drop (List.mem_of_mem_take hx))⟩⟩
      congr 1
      apply Array.ext'
      simp [List.extract_eq_take_drop]
    · simp at hp
  | false =>
    rw [ha] at hp
    simp only [Bool.false_eq_true, if_false, part] at hp
    obtain ⟨c, hc, hr⟩ := h.get hp
    exact ⟨c, by simp [hc], hr⟩

theorem eqv_run : ∀ (n : Nat) (t : TypeId) (E : ETy) (a b : V) (x y : Value) (r : Bool) (w : World), etyOf P n t = some E → eqv E a b = some r → Rep φ g m a x → Rep φ g m b y → ∀ d, n ≤ d → (Op.equalIn d t x y).run P w = .ok r w
  | 0, t, E, a, b, x, y, r, w, h, _, _, _, _, _ => by simp [etyOf] at h
  | n + 1, t, E, a, b, x, y, r, w, h, hv, ha, hb, d, hd => by
    obtain ⟨d, rfl⟩ : ∃ k, d = k + 1 := ⟨d - 1, by omega⟩
    simp only [etyOf] at h
    split at h
    · rename_i hu
      cases h
      cases a <;> cases b <;> simp [eqv] at hv
      have ha := rep_bool ha; have hb := rep_bool hb
      subst ha; subst hb; subst hv
      simp [Op.equalIn, run_underlying hu]
    · rename_i k hu
      cases h
      cases a <;> cases b <;> simp [eqv] at hv
      have ha := rep_int ha; have hb := rep_int hb
      obtain ⟨h1, h2⟩ := hv
      subst ha; subst hb; subst h1; subst h2
      simp [Op.equalIn, run_underlying hu]
    · rename_i hu
      cases h
      cases a <;> cases b <;> simp [eqv] at hv
      have ha := rep_str ha; have hb := rep_str hb
      subst ha; subst hb; subst hv
      simp [Op.equalIn, run_underlying hu, beq_toListBytes, ByteArray.toList_mk]
    · rename_i fs hu
      split at h
      · simp at h
      · rename_i hbad
        obtain ⟨l, hl, rfl⟩ := omap h
        cases a <;> cases b <;> simp only [eqv] at hv <;> try (simp at hv; done)
        rename_i ca cb
        obtain ⟨la, rfl, ha1, ha2⟩ := ha
        obtain ⟨lb, rfl, hb1, hb2⟩ := hb
        simp only [Bool.or_eq_true, not_or, Bool.not_eq_true] at hbad
        have hf : P.fieldsOf t = fs := by simp [Program.fieldsOf, hu]
        rw [run_equalIn_struct (P := P) w d t la.toArray lb.toArray (by rw [hf]; exact hu) hbad.1.1, hf]
        have key : ∀ (fl : List Field) (el : List (Nat × Option Nat × ETy)) (r : Bool), (fl.any fun f => f.name == "_") = false →
            mapM' (fun (f : Field) => (szT P f.type).bind fun z => (etyOf P n f.type).map fun e => (f.offset, z, e)) fl = some el → eqvL el ca cb = some r → (Op.eqFields d la.toArray lb.toArray fl).run P w = .ok r w := by
          intro fl
          induction fl with
          | nil => intro el r _ h1 h2; simp [mapM'] at h1; subst h1; simp [eqvL] at h2; subst h2; simp [Op.eqFields]
          | cons f fl ih =>
            intro el r hn h1 h2
            simp only [mapM'] at h1
            obtain ⟨x1, h3, h1⟩ := obind h1
            obtain ⟨el', h4, rfl⟩ := omap h1
            obtain ⟨z, h5, h3⟩ := obind h3
            obtain ⟨E', h6, rfl⟩ := omap h3
            simp only [eqvL] at h2
            obtain ⟨pa, p1, h2⟩ := obind h2
            obtain ⟨pb, p2, h2⟩ := obind h2
            obtain ⟨q, p3, h2⟩ := obind h2
            obtain ⟨qs, p4, rfl⟩ := omap h2
            simp only [List.any_cons, Bool.or_eq_false_iff] at hn
            obtain ⟨ca, c1, c2⟩ := part_rep ha1 ha2 h5 p1 w
            obtain ⟨cb, c3, c4⟩ := part_rep hb1 hb2 h5 p2 w
            have hq := eqv_run n f.type E' pa pb ca cb q w h6 p3 c2 c4 d (by omega)
            have hn' : f.name ≠ "_" := by simpa using hn.1
            rw [Op.eqFields]
            simp only [if_pos hn', Sem.run_bind, c1, c3, hq, Result.andThen_ok]
            cases q
            · simp
            · simpa using ih el' qs hn.2 h4 p4
        exact key fs.toList l r hbad.1.2 hl hv
    · simp at h

theorem etyOf_guard : ∀ (n : Nat) (t : TypeId) (E : ETy), etyOf P n t = some E → (∃ fs, P.underlying t = some (.struct fs) ∧ P.eqGuardType P.depth t = false) ∨ P.underlying t = some .bool ∨ (∃ k, P.underlying t = some (.int k)) ∨ P.underlying t = some .string
  | 0, _, _, h => by simp [etyOf] at h
  | n + 1, t, E, h => by
    simp only [etyOf] at h
    split at h
    · rename_i hu; exact .inr (.inl hu)
    · rename_i k hu; exact .inr (.inr (.inl ⟨k, hu⟩))
    · rename_i hu; exact .inr (.inr (.inr hu))
    · rename_i fs hu
      split at h
      · simp at h
      · rename_i hbad
        simp only [Bool.or_eq_true, not_or, Bool.not_eq_true] at hbad
        exact .inl ⟨fs, hu, hbad.2⟩
    · simp at h

theorem etyOf_struct {n : Nat} {t : TypeId} {E : ETy} {fs : Array Field} (hE : etyOf P (n + 1) t = some E) (hu : P.underlying t = some (.struct fs)) : ∃ l, E = .st l := by
  simp only [etyOf, hu] at hE
  split at hE
  · simp at hE
  · obtain ⟨l, _, rfl⟩ := omap hE; exact ⟨l, rfl⟩
theorem etyOf_bool {n : Nat} {t : TypeId} {E : ETy} (hE : etyOf P (n + 1) t = some E) (hu : P.underlying t = some .bool) : E = .bool := by
  simp only [etyOf, hu] at hE
  cases hE; rfl

theorem op_eqs (hi : Inv w0 φ g m w) (ht : Told A F past φ g m e ρ) {t t' : TypeId} {neg : Bool} {x z : Operand} (ho : o.op = .binOp (if neg then .neq else .eql) t x z t') {E : ETy} (hE : etyOf P 10 t = some E)
    (hnk : ∀ k, P.underlying t ≠ some (.int k)) (hns : P.underlying t ≠ some .string) {y y' : Opd} (hx : opdOf A F past x = some y) (hz : opdOf A F past z = some y')
    {v : V} (hv : pureOp e (.eqs E neg y y') = some v) : OpDone P w0 ρ o φ g m w v m := by
  have h1 := ht x y hx
  have h2 := ht z y' hz
  simp only [pureOp] at hv
  obtain ⟨b, hb, rfl⟩ := omap hv
  have hrun : ∀ d, 10 ≤ d → (Op.equalIn d t (ρ x) (ρ z)).run P w = .ok b w := fun d hd => eqv_run 10 t E (e y) (e y') _ _ b w hE hb h1 h2 d hd
  have heq : (Op.equal t (ρ x) (ρ z)).run P w = .ok b w := hrun 10000 (by omega)
  have shape : (∃ p q, ρ x = .bool p ∧ ρ z = .bool q) ∨ (∃ p q, ρ x = .agg p ∧ ρ z = .agg q ∧ P.eqGuardType P.depth t = false) := by
    rcases etyOf_guard 10 t E hE with ⟨fs, hu, hg⟩ | hu | ⟨k, hu⟩ | hu
    · refine .inr ?_
      have : ∃ l, E = .st l := etyOf_struct (n := 9) hE hu
      obtain ⟨l, rfl⟩ := this
      cases he : e y <;> cases he' : e y' <;> rw [he, he'] at hb <;> simp only [eqv] at hb <;> try (simp at hb; done)
      rw [he] at h1; rw [he'] at h2
      obtain ⟨la, k1, _⟩ := h1
      obtain ⟨lb, k2, _⟩ := h2
      exact ⟨_, _, k1, k2, hg⟩
    · refine .inl ?_
      have : E = .bool := etyOf_bool (n := 9) hE hu
      subst this
      cases he : e y <;> cases he' : e y' <;> rw [he, he'] at hb <;> simp only [eqv] at hb <;> try (simp at hb; done)
      rw [he] at h1; rw [he'] at h2
      exact ⟨_, _, rep_bool h1, rep_bool h2⟩
    · exact absurd hu (hnk k)
    · exact absurd hu hns
  rcases shape with ⟨p, q, e1, e2⟩ | ⟨p, q, e1, e2, hg⟩
  · exact op_eq hi ho heq (eqGuard_ok _ _ (by simp [e1]) (by simp [e1])) (by simp [e1]) (by simp [e1]) (by simp [e1]) (by simp [e1]) (by simp [e2])
  · exact op_eq hi ho heq (by rw [e1, e2]; exact eqGuard_agg _ _ hg) (by simp [e1]) (by simp [e1]) (by simp [e1]) (by simp [e1]) (by simp [e2])
end
end Go.Vm
-- VmQ: One operation, continued: addresses of parts, indexes, slices, literals.
namespace Go.Vm
open Go Go.RowKit

section
variable {P : Program} {w0 : World} {φ : Phi} {g : List GO} {m : Mem} {w : World} {ρ : Operand → Value} {o : Oper}
variable {A : Ann} {F : FAnn} {past : List (Option Tmp)} {e : Opd → V}

theorem add_mk (b o n : Nat) : (⟨b, o, none⟩ : Addr).add n = ⟨b, o + n, none⟩ := by
  unfold Addr.add; split
  · rename_i h; subst h; rfl
  · rfl

theorem op_faddr (hi : Inv w0 φ g m w) (ht : Told A F past φ g m e ρ) {s : TypeId} {x : Operand} {f : Nat} (ho : o.op = .fieldAddr s x f) {fl : Field} {n : Nat} (hf : fieldT P s f = some fl) (hn : szOf P fl.type = some n) (h0 : n ≠ 0)
    {y : Opd} (hx : opdOf A F past x = some y) {v : V} (hv : pureOp e (.faddr fl.offset y) = some v) : OpDone P w0 ρ o φ g m w v m := by
  have h1 := ht x y hx
  have hfs : ∃ fs, P.underlying s = some (.struct fs) ∧ fs[f]? = some fl := by
    unfold fieldT at hf
    split at hf
    · rename_i fs hu; exact ⟨fs, hu, hf⟩
    · simp at hf
  obtain ⟨fs, hu, hfl⟩ := hfs
  unfold szOf at hn
  obtain ⟨i, hinf, rfl⟩ := omap hn
  have run : ∀ a, ρ x = .pointer (some a) → (execOp ρ o).run P w = .ok (.value (.pointer (some (a.add fl.offset)))) w := fun a ha => by
    simp [execOp, ho, Instr.fieldAt, run_underlying hu, hfl, ha, Instr.sureAddr, fieldPlace, sizeOf, typeInfo, hinf, h0]
  simp only [pureOp] at hv
  split at hv
  · rename_i r q he
    rw [he] at h1
    obtain ⟨blk, k1, k2⟩ := h1
    cases hv
    exact OpDone.same hi (run _ k2) ⟨blk, k1, by rw [add_mk]⟩
  · rename_i z q he
    rw [he] at h1
    obtain ⟨a, ev, k1, kf, k2, k3⟩ := h1
    cases hv
    exact OpDone.same hi (run _ k3) ⟨a, ev, k1, kf, k2, by rw [Addr.add_add]⟩
  · simp at hv

theorem op_field (hi : Inv w0 φ g m w) (ht : Told A F past φ g m e ρ) {s : TypeId} {x : Operand} {f : Nat} (ho : o.op = .field s x f) {fl : Field} {n : Option Nat} (hf : fieldT P s f = some fl) (hn : szT P fl.type = some n)
    {y : Opd} (hx : opdOf A F past x = some y) {v : V} (hv : pureOp e (.field fl.offset n y) = some v) : OpDone P w0 ρ o φ g m w v m := by
  have h1 := ht x y hx
  have hfs : ∃ fs, P.underlying s = some (.struct fs) ∧ fs[f]? = some fl := by
    unfold fieldT at hf
    split at hf
    · rename_i fs hu; exact ⟨fs, hu, hf⟩
    · simp at hf
  obtain ⟨fs, hu, hfl⟩ := hfs
  simp only [pureOp] at hv
  split at hv
  · rename_i cs he
    rw [he] at h1
    obtain ⟨l, k1, k2, k3⟩ := h1
    obtain ⟨cv, c1, c2⟩ := part_rep k2 k3 hn hv w
    exact OpDone.same hi (cv := cv) (by simp [execOp, ho, Instr.field, run_underlying hu, hfl, k1, asAgg, c1]) c2
  · simp at hv

theorem fits_cells {x : V} {ev : Value} {n : Nat} (h : RepC φ x ev) (hf : x.fits n = true) : x.fits x.cells.length = true := by
  rw [(Rep.cells (g := []) (m := []) (h.rep x ev) hf).2.2.2]; exact hf

theorem op_iaddr (hi : Inv w0 φ g m w) (ht : Told A F past φ g m e ρ) {t el : TypeId} {x z : Operand} (ho : o.op = .indexAddr t x z) {sz : Nat} (hel : elemT P t = some el) (hsz : szOf P el = some sz)
    {y y' : Opd} (hx : opdOf A F past x = some y) (hz : opdOf A F past z = some y') {v : V} (hv : pureOp e (.iaddr sz y y') = some v ∨ readOp m e (.iaddr sz y y') = some v) : OpDone P w0 ρ o φ g m w v m := by
  have h1 := ht x y hx
  have h2 := ht z y' hz
  have hu : P.underlying t = some (.slice el) := by
    unfold elemT at hel
    split at hel
    · rename_i e' hu; cases hel; exact hu
    · simp at hel
  unfold szOf at hsz
  obtain ⟨i, hinf, rfl⟩ := omap hsz
  have run : ∀ a len cap k n, ρ x = .slice (some a) len cap → ρ z = .int k n → 0 ≤ n → n < len → (execOp ρ o).run P w = .ok (.value (.pointer (some (a.add (n.toNat * i.size))))) w := fun a len cap k n ha hk h0 hl => by
    simp [execOp, ho, Instr.indexAt, hk, asIntOf, run_underlying hu, ha, h0, hl, sizeOf, typeInfo, hinf]
  rcases hv with hv | hv
  · simp only [pureOp] at hv
    split at hv
    · rename_i nl sz' xs k n he he'
      rw [he] at h1; rw [he'] at h2
      have h2 := rep_int h2
      split at hv
      · rename_i hc
        obtain ⟨e1, h0⟩ := hc
        obtain ⟨u, hu', rfl⟩ := omap hv
        rcases h1 with ⟨_, hx0, _⟩ | ⟨_, a, cap, evs, k1, k2, k3, k4, k5⟩
        · subst hx0; simp at hu'
        · have hlt : n.toNat < xs.length := (List.getElem?_eq_some_iff.1 hu').1
          obtain ⟨ev, c1, c2, c3⟩ := Els.get ⟨evs, k3, k4, k5⟩ hu'
          subst e1
          refine OpDone.same hi (run a xs.length cap k n k1 h2 h0 (by omega)) ⟨_, ev, c1, fits_cells c1 c2, c3, ?_⟩
          simp [Addr.add]
      · simp at hv
    · simp at hv
  · simp only [readOp] at hv
    split at hv
    · rename_i q n k j he he'
      rw [he] at h1; rw [he'] at h2
      have h2 := rep_int h2
      obtain ⟨sz', born, xs, ra, rc, k1, k2, k3, k4, h1⟩ := h1
      rw [k1] at hv
      simp only [] at hv
      split at hv
      · rename_i hc
        obtain ⟨e1, h0, hl⟩ := hc
        obtain ⟨u, hu', rfl⟩ := omap hv
        rcases h1 with ⟨_, hn0, _⟩ | ⟨_, a, cap, c1, c2, c3⟩
        · omega
        · have ht' : (xs.take n)[j.toNat]? = some u := by rw [List.getElem?_take, if_pos (by omega)]; exact hu'
          obtain ⟨ev, d1, d2, d3⟩ := Els.get c3 ht'
          subst e1
          refine OpDone.same hi (run a n cap k j c1 h2 h0 (by omega)) ⟨_, ev, d1, fits_cells d1 d2, d3, ?_⟩
          simp [Addr.add]
      · simp at hv
    · simp at hv

theorem bytes_get (l : List UInt8) (n : Nat) : (ByteArray.mk l.toArray)[n]? = l[n]? := by
  by_cases h : n < l.length
  · rw [getElem?_pos (ByteArray.mk l.toArray) n (by simpa using h), List.getElem?_eq_getElem h]; rfl
  · rw [getElem?_neg (ByteArray.mk l.toArray) n (by simpa using h), List.getElem?_eq_none (by omega)]

theorem op_idxs (hi : Inv w0 φ g m w) (ht : Told A F past φ g m e ρ) {t : TypeId} {x z : Operand} (ho : o.op = .index t x z) (hu : P.underlying t = some .string)
    {y y' : Opd} (hx : opdOf A F past x = some y) (hz : opdOf A F past z = some y') {v : V} (hv : pureOp e (.idxs y y') = some v) : OpDone P w0 ρ o φ g m w v m := by
  have h1 := ht x y hx
  have h2 := ht z y' hz
  simp only [pureOp] at hv
  split at hv
  · rename_i s k n he he'
    rw [he] at h1; rw [he'] at h2
    have h1 := rep_str h1
    have h2 := rep_int h2
    split at hv
    · rename_i h0
      obtain ⟨b, hb, rfl⟩ := omap hv
      exact OpDone.same hi (cv := .int .u8 b.toNat) (by simp [execOp, ho, Instr.index, h2, asIntOf, run_underlying hu, h1, h0, bytes_get, hb]) rfl
    · simp at hv
  · simp at hv

theorem op_idxa (hi : Inv w0 φ g m w) (ht : Told A F past φ g m e ρ) {t el : TypeId} {len n : Nat} {x z : Operand} (ho : o.op = .index t x z) (hu : P.underlying t = some (.array len el)) (hn : szOf P el = some n) (hd : (P.underlying el).isSome = true)
    {y y' : Opd} (hx : opdOf A F past x = some y) (hz : opdOf A F past z = some y') {v : V} (hv : pureOp e (.idxa len n (aggT P el) y y') = some v) : OpDone P w0 ρ o φ g m w v m := by
  have h1 := ht x y hx
  have h2 := ht z y' hz
  obtain ⟨d, hd⟩ := Option.isSome_iff_exists.1 hd
  have hs : szT P el = some (if aggT P el then some n else none) := by simp [szT, hd, hn]
  have hn' := hn
  unfold szOf at hn'
  obtain ⟨i, hinf, rfl⟩ := omap hn'
  simp only [pureOp] at hv
  split at hv
  · rename_i cs k j he he'
    rw [he] at h1; rw [he'] at h2
    have h2 := rep_int h2
    obtain ⟨l, k1, k2, k3⟩ := h1
    split at hv
    · rename_i hc
      obtain ⟨cv, c1, c2⟩ := part_rep k2 k3 hs hv w
      exact OpDone.same hi (cv := cv) (by simp [execOp, ho, Instr.index, h2, asIntOf, run_underlying hu, k1, hc.1, hc.2, sizeOf, typeInfo, hinf, c1]) c2
    · simp at hv
  · simp at hv

theorem bytes_extract (l : List UInt8) (a b : Nat) : (ByteArray.mk l.toArray).extract a b = ByteArray.mk ((l.take b).drop a).toArray := by
  apply ByteArray.ext
  rw [ByteArray.data_extract]
  apply Array.ext'
  simp [List.extract_eq_take_drop, List.drop_take]

/-- The bounds of a slice. -/
theorem bounds_run {n cap : Nat} {sl : Bool} (hcap : n ≤ cap) {lo hi' : Option V} {lo' hi'' : Option Value} (hlo : match lo, lo' with | none, none => True | some v, some c => Rep φ g m v c | _, _ => False)
    (hhi : match hi', hi'' with | none, none => True | some v, some c => Rep φ g m v c | _, _ => False) {a b : Nat} (h : bounds n lo hi' = some (a, b)) :
    (Instr.sliceBounds sl n cap lo' hi'' none).run P w = .ok (a, b, cap) w ∧ a ≤ b ∧ b ≤ n := by
  unfold bounds at h
  obtain ⟨h1, hh, h⟩ := obind h
  have hb : (match hi'', (none : Option Value) with
    | some v, some _ => Instr.sliceBound v cap .slice3B
    | some v, none => Instr.sliceBound v cap (if sl then .sliceAcap else .sliceAlen)
    | none, none => pure n
    | none, some _ => stuck "Slice: max without high" : Sem Nat).run P w = .ok h1 w ∧ h1 ≤ n := by
    cases hi' with
    | none =>
      cases hi'' with
      | none => simp at hh; subst hh; exact ⟨by simp, Nat.le_refl _⟩
      | some _ => exact hhi.elim
    | some v =>
      cases hi'' with
      | none => exact hhi.elim
      | some c =>
        cases v <;> simp only [] at hh <;> try (simp at hh; done)
        split at hh
        · rename_i k i hc
          cases hh
          have := rep_int hhi
          subst this
          refine ⟨?_, by omega⟩
          have hc2 : 0 ≤ i ∧ i ≤ (cap : Int) := ⟨hc.1, by omega⟩
          simp [Instr.sliceBound, asIntOf, hc2]
        · simp at hh
  have hl : (match lo' with
    | some v => Instr.sliceBound v h1 .sliceB
    | none => pure 0 : Sem Nat).run P w = .ok a w ∧ a ≤ h1 ∧ b = h1 := by
    cases lo with
    | none =>
      cases lo' with
      | none => simp at h; obtain ⟨rfl, rfl⟩ := h; exact ⟨by simp, Nat.zero_le _, rfl⟩
      | some _ => exact hlo.elim
    | some v =>
      cases lo' with
      | none => exact hlo.elim
      | some c =>
        cases v <;> simp only [] at h <;> try (simp at h; done)
        split at h
        · rename_i k i hc
          cases h
          have := rep_int hlo
          subst this
          exact ⟨by simp [Instr.sliceBound, asIntOf, hc.1, hc.2], by omega, rfl⟩
        · simp at h
  obtain ⟨hb1, hb2⟩ := hb
  obtain ⟨hl1, hl2, rfl⟩ := hl
  refine ⟨?_, hl2, hb2⟩
  unfold Instr.sliceBounds
  simp only [Sem.run_bind, Sem.run_pure, Result.andThen_ok]
  cases hi'' <;> cases lo' <;> simp_all
end
end Go.Vm
-- VmS: One operation, continued: slices, literals, conversions that make memory.
namespace Go.Vm
open Go Go.RowKit

section
variable {P : Program} {w0 : World} {φ : Phi} {g : List GO} {m : Mem} {w : World} {ρ : Operand → Value} {o : Oper}
variable {A : Ann} {F : FAnn} {past : List (Option Tmp)} {e : Opd → V}

theorem optM_rel (ht : Told A F past φ g m e ρ) {x : Option Operand} {y : Option Opd} (h : optM (opdOf A F past) x = some y) :
    match y.map e, x.map ρ with | none, none => True | some v, some c => Rep φ g m v c | _, _ => False := by
  cases x with
  | none => simp [optM] at h; subst h; trivial
  | some x =>
    simp only [optM] at h
    obtain ⟨z, hz, rfl⟩ := omap h
    exact ht x z hz

/-- A slice that is told: its elements, its address. -/
theorem rep_sl {nl : Bool} {sz : Nat} {xs : List V} {c : Value} (h : Rep φ g m (.sl nl sz xs) c) :
    ∃ a cap, c = .slice a xs.length cap ∧ xs.length ≤ cap ∧ ((nl = true ∧ xs = [] ∧ a = none ∧ cap = 0) ∨ (nl = false ∧ ∃ ad, a = some ad ∧ Els φ ad sz xs)) := by
  rcases h with ⟨h1, h2, h3⟩ | ⟨h1, a, cap, evs, h2, h3, h4, h5, h6⟩
  · subst h2; exact ⟨none, 0, h3, Nat.le_refl _, .inl ⟨h1, rfl, rfl, rfl⟩⟩
  · exact ⟨some a, cap, h2, h3, .inr ⟨h1, a, rfl, evs, h4, h5, h6⟩⟩

theorem sl_rep {sz : Nat} {xs : List V} {a : Addr} {cap : Nat} (hc : xs.length ≤ cap) (h : Els φ a sz xs) : Rep φ g m (.sl false sz xs) (.slice (some a) xs.length cap) := by
  obtain ⟨evs, h4, h5, h6⟩ := h
  exact .inr ⟨rfl, a, cap, evs, rfl, hc, h4, h5, h6⟩

theorem seal_gs {k n : Nat} {c : Value} {y : V} (h : Rep φ g m (.gs k n) c) (hs : (V.gs k n).shut m = some y) : Rep φ g m y c := by
  obtain ⟨sz, born, xs, ra, rc, k1, k2, k3, k4, h⟩ := h
  simp only [V.shut, k1] at hs
  cases hs
  rcases h with ⟨h1, h2, h3⟩ | ⟨h1, a, cap, h2, h3, h4⟩
  · subst h2
    exact .inl ⟨by simp [h1], by simp, h3⟩
  · have hb : (born && n == 0) = false := by
      cases born with
      | false => rfl
      | true => simp; exact fun hh => h1 ⟨rfl, hh⟩
    have hl : (xs.take n).length = n := by simp; omega
    rw [hb]
    have := sl_rep (g := g) (m := m) (xs := xs.take n) (cap := cap) (by omega) h4
    rw [hl] at this
    rw [h2]; exact this

mutual
/-- What others see of a value. -/
theorem Rep.shut : ∀ (v : V) (c : Value) (v' : V), Rep φ g m v c → v.shut m = some v' → Rep φ g m v' c
  | .gs k n, c, v', h, hs => seal_gs h hs
  | .gm k, c, v', h, hs => absurd h (by simp [Rep, RepC])
  | .agg cs, c, v', ⟨l, h1, h2, h3⟩, hs => by
    simp only [V.shut] at hs
    obtain ⟨k, hk, rfl⟩ := omap hs
    exact ⟨l, h1, RepL.shut cs l k h2 hk, h3⟩
  | .tup vs, c, v', ⟨l, h1, h2⟩, hs => by
    simp only [V.shut] at hs
    obtain ⟨k, hk, rfl⟩ := omap hs
    exact ⟨l, h1, RepL.shut vs l k h2 hk⟩
  | .ifc t v, c, v', ⟨cv, h1, h2⟩, hs => by
    simp only [V.shut] at hs
    obtain ⟨k, hk, rfl⟩ := omap hs
    exact ⟨cv, h1, Rep.shut v cv k h2 hk⟩
  | .ptr r o, c, v', h, hs => by simp [V.shut] at hs; subst hs; exact h
  | .fn f a b, c, v', h, hs => by simp [V.shut] at hs; subst hs; exact h
  | .undef, c, v', h, hs => by simp [V.shut] at hs; subst hs; exact h
  | .bool b, c, v', h, hs => by simp [V.shut] at hs; subst hs; exact h
  | .int k i, c, v', h, hs => by simp [V.shut] at hs; subst hs; exact h
  | .str s, c, v', h, hs => by simp [V.shut] at hs; subst hs; exact h
  | .nilp, c, v', h, hs => by simp [V.shut] at hs; subst hs; exact h
  | .ep x o, c, v', h, hs => by simp [V.shut] at hs; subst hs; exact h
  | .sl nl sz xs, c, v', h, hs => by simp [V.shut] at hs; subst hs; exact h
  | .nilf, c, v', h, hs => by simp [V.shut] at hs; subst hs; exact h
  | .nili, c, v', h, hs => by simp [V.shut] at hs; subst hs; exact h
  | .nilm, c, v', h, hs => by simp [V.shut] at hs; subst hs; exact h
  | .mp ks vs, c, v', h, hs => by simp [V.shut] at hs; subst hs; exact h
theorem RepL.shut : ∀ (l : List V) (c : List Value) (l' : List V), RepL φ g m l c → V.sealL m l = some l' → RepL φ g m l' c
  | [], c, l', h, hs => by simp [V.sealL] at hs; subst hs; exact h
  | v :: l, c, l', ⟨x, cs, e, h1, h2⟩, hs => by
    simp only [V.sealL] at hs
    obtain ⟨v', h3, hs⟩ := obind hs
    obtain ⟨k, h4, rfl⟩ := omap hs
    exact ⟨x, cs, e, Rep.shut v x v' h1 h3, RepL.shut l cs k h2 h4⟩
end

theorem sliceV_run {el : TypeId} {t : TypeId} {i : TypeInfo} (hu : P.underlying t = some (.slice el)) (hinf : P.info? el = some i) {sz : Nat} {nl : Bool} {xs : List V} {c : Value} (h1 : Rep φ g m (.sl nl sz xs) c)
    {lo hi' : Option V} {lo' hi'' mx' : Option Value}
    (hb : ∀ a b cap, bounds xs.length lo hi' = some (a, b) → xs.length ≤ cap → ∃ cap', a ≤ b ∧ b ≤ xs.length ∧ b ≤ cap' ∧ cap' ≤ cap ∧ (Instr.sliceBounds true xs.length cap lo' hi'' mx').run P w = .ok (a, b, cap') w)
    {v : V} (hv : sliceV (some i.size) (.sl nl sz xs) lo hi' = some v) : ∃ cv, (Instr.slice t c lo' hi'' mx').run P w = .ok cv w ∧ Rep φ g m v cv := by
  simp only [sliceV] at hv
  split at hv
  rotate_left
  · simp at hv
  rename_i hsz
  obtain ⟨⟨a, b⟩, hab, rfl⟩ := omap hv
  obtain ⟨ad, cap, rfl, hcap, h⟩ := rep_sl h1
  obtain ⟨cap', q1, q2, q3, q4, hrun⟩ := hb a b cap hab hcap
  refine ⟨_, by simp [Instr.slice, run_underlying hu, hrun, sizeOf, typeInfo, hinf]; rfl, ?_⟩
  rcases h with ⟨h2, rfl, rfl, rfl⟩ | ⟨h2, ad, rfl, h3⟩
  · have ha : a = 0 := by simp at q2; omega
    have hb' : b = 0 := by simp at q2; omega
    have hc' : cap' = 0 := by omega
    subst ha; subst hb'; subst hc'
    exact .inl ⟨h2, by simp, by simp⟩
  · subst h2
    have hsz : i.size = sz := by simpa using hsz
    have hl : ((xs.take b).drop a).length = b - a := by simp; omega
    have hels : Els φ (if cap' = a then ad else ad.add (a * i.size)) sz ((xs.take b).drop a) := by
      by_cases hne : (xs.take b).drop a = []
      · rw [hne]; exact ⟨[], RepCL.nil, by simp, fun j v hj => by simp [flat] at hj⟩
      · have hab' : a < b := by
          rcases Nat.lt_or_ge a b with h | h
          · exact h
          · exact absurd (List.drop_eq_nil_of_le (by simp; omega)) hne
        rw [if_neg (by omega), hsz]
        exact (h3.take b).drop a
    have := sl_rep (g := g) (m := m) (xs := (xs.take b).drop a) (cap := cap' - a) (by omega) hels
    rw [hl] at this
    by_cases hca : cap' = a
    · rw [if_pos hca] at this; rw [if_pos hca]; exact this
    · rw [if_neg hca] at this; rw [if_neg hca]; exact this

theorem op_sliceS (hi : Inv w0 φ g m w) (ht : Told A F past φ g m e ρ) {t : TypeId} {x : Operand} {lo hi' : Option Operand} (ho : o.op = .slice t x lo hi' none) (hu : P.underlying t = some .string) {y : Opd} {lo2 hi2 mx2 : Option Opd}
    (hx : opdOf A F past x = some y) (hlo : optM (opdOf A F past) lo = some lo2) (hhi : optM (opdOf A F past) hi' = some hi2) {v : V} (hv : pureOp e (.slice none y lo2 hi2 mx2) = some v) : OpDone P w0 ρ o φ g m w v m := by
  have h1 := ht x y hx
  simp only [pureOp] at hv
  split at hv
  rotate_left
  · simp at hv
  cases he : e y <;> rw [he] at hv <;> simp only [sliceV] at hv <;> try (simp at hv; done)
  rename_i s
  rw [he] at h1
  have h1 := rep_str h1
  obtain ⟨⟨a, b⟩, hab, rfl⟩ := omap hv
  have hb := bounds_run (P := P) (w := w) (sl := false) (Nat.le_refl s.length) (optM_rel ht hlo) (optM_rel ht hhi) hab
  refine OpDone.same hi (cv := .string ⟨((s.take b).drop a).toArray⟩) ?_ rfl
  simp [execOp, ho, Instr.sliceAt, run_underlying hu, Instr.slice, h1, hb.1, bytes_extract]

/-- The bounds of a slice with three indexes. -/
theorem bounds_run3 {n cap : Nat} (hcap : n ≤ cap) {lo : Option V} {lo' : Option Value} (hlo : match lo, lo' with | none, none => True | some v, some c => Rep φ g m v c | _, _ => False)
    {k k' : IntKind} {b : Int} {a a' : Nat} (h : bounds n lo (some (.int k b)) = some (a, a')) :
    (Instr.sliceBounds true n cap lo' (some (.int k b)) (some (.int k' b))).run P w = .ok (a, a', a') w ∧ a ≤ a' ∧ a' ≤ n := by
  unfold bounds at h
  simp only [] at h
  split at h
  rotate_left
  · simp at h
  rename_i hc
  obtain ⟨b, rfl⟩ := Int.eq_ofNat_of_zero_le hc.1
  simp only [Option.bind_some, Int.toNat_natCast] at h
  have hc2 : b ≤ cap := by omega
  cases lo with
  | none =>
    cases lo' with
    | some _ => exact hlo.elim
    | none =>
      simp at h
      obtain ⟨rfl, rfl⟩ := h
      refine ⟨?_, by omega, by omega⟩
      simp [Instr.sliceBounds, Instr.sliceBound, asIntOf, hc2]
  | some v =>
    cases lo' with
    | none => exact hlo.elim
    | some c =>
      cases v <;> simp only [] at h <;> try (simp at h; done)
      split at h
      rotate_left
      · simp at h
      rename_i k2 i hc4
      cases h
      have := rep_int hlo
      subst this
      refine ⟨?_, by omega, by omega⟩
      simp [Instr.sliceBounds, Instr.sliceBound, asIntOf, hc2, hc4]

theorem okMax_bounds (ht : Told A F past φ g m e ρ) {lo hi' mx : Option Operand} {lo2 hi2 mx2 : Option Opd} (hlo : optM (opdOf A F past) lo = some lo2) (hhi : optM (opdOf A F past) hi' = some hi2) (hmx : optM (opdOf A F past) mx = some mx2)
    (hok : okMax (hi2.map e) (mx2.map e) = true) {n a b cap : Nat} (hab : bounds n (lo2.map e) (hi2.map e) = some (a, b)) (hcap : n ≤ cap) :
    ∃ cap', a ≤ b ∧ b ≤ n ∧ b ≤ cap' ∧ cap' ≤ cap ∧ (Instr.sliceBounds true n cap (lo.map ρ) (hi'.map ρ) (mx.map ρ)).run P w = .ok (a, b, cap') w := by
  have hm := optM_rel ht hmx
  have hh := optM_rel ht hhi
  have hl := optM_rel ht hlo
  generalize mx2.map e = M at *
  generalize mx.map ρ = M' at *
  generalize hi2.map e = H at *
  generalize hi'.map ρ = H' at *
  cases M with
  | none =>
    cases M' with
    | some _ => exact hm.elim
    | none =>
      obtain ⟨q1, q2, q3⟩ := bounds_run (P := P) (w := w) (sl := true) hcap hl hh hab
      exact ⟨cap, q2, q3, by omega, Nat.le_refl _, q1⟩
  | some v =>
    cases M' with
    | none => exact hm.elim
    | some c =>
      cases v <;> simp only [okMax] at hok <;> try (simp at hok; done)
      cases H with
      | none => simp at hok
      | some hv =>
        cases H' with
        | none => exact hh.elim
        | some hc =>
          cases hv <;> simp only [] at hok <;> try (simp at hok; done)
          have hok := beq_iff_eq.1 hok
          subst hok
          have e1 := rep_int hm
          have e2 := rep_int hh
          subst e1; subst e2
          obtain ⟨q1, q2, q3⟩ := bounds_run3 (P := P) (w := w) hcap hl hab
          exact ⟨_, q2, q3, Nat.le_refl _, by omega, q1⟩

theorem op_sliceL (hi : Inv w0 φ g m w) (ht : Told A F past φ g m e ρ) {t el : TypeId} {x : Operand} {lo hi' mx : Option Operand} (ho : o.op = .slice t x lo hi' mx) (hu : P.underlying t = some (.slice el)) {z : Nat} (hz : szOf P el = some z)
    {y : Opd} {lo2 hi2 mx2 : Option Opd} (hx : opdOf A F past x = some y) (hlo : optM (opdOf A F past) lo = some lo2) (hhi : optM (opdOf A F past) hi' = some hi2) (hmx : optM (opdOf A F past) mx = some mx2) {v : V}
    (hv : pureOp e (.slice (some z) y lo2 hi2 mx2) = some v ∨ readOp m e (.slice (some z) y lo2 hi2 mx2) = some v) : OpDone P w0 ρ o φ g m w v m := by
  have h1 := ht x y hx
  unfold szOf at hz
  obtain ⟨i, hinf, rfl⟩ := omap hz
  have run : ∀ cv, (Instr.slice t (ρ x) (lo.map ρ) (hi'.map ρ) (mx.map ρ)).run P w = .ok cv w → (execOp ρ o).run P w = .ok (.value cv) w := fun cv h => by
    simp [execOp, ho, Instr.sliceAt, run_underlying hu, h]
  have main : ∀ nl sz xs, Rep φ g m (.sl nl sz xs) (ρ x) → okMax (hi2.map e) (mx2.map e) = true → sliceV (some i.size) (.sl nl sz xs) (lo2.map e) (hi2.map e) = some v → OpDone P w0 ρ o φ g m w v m := by
    intro nl sz xs hr hok hv
    obtain ⟨cv, c1, c2⟩ := sliceV_run (w := w) (lo' := lo.map ρ) (hi'' := hi'.map ρ) (mx' := mx.map ρ) hu hinf hr (fun a b cap hab hcap => okMax_bounds ht hlo hhi hmx hok hab hcap) hv
    exact OpDone.same hi (run _ c1) c2
  rcases hv with hv | hv
  · simp only [pureOp] at hv
    split at hv
    · rename_i hok
      cases he : e y <;> rw [he] at hv <;> try (simp [sliceV] at hv; done)
      rename_i nl sz xs
      rw [he] at h1
      exact main nl sz xs h1 hok hv
    · simp at hv
  · simp only [readOp] at hv
    split at hv
    · rename_i k n he
      rw [he] at h1
      split at hv
      · rename_i hok
        split at hv
        · rename_i z hz
          have := seal_gs h1 hz
          have hz' := hz
          simp only [V.shut] at hz'
          split at hz'
          · cases hz'
            exact main _ _ _ this hok hv
          · simp at hz'
        · simp at hv
      · simp at hv
    · simp at hv
end
end Go.Vm
