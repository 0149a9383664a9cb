/- Part 6 of the ground under the rows: Code. -/
import Derived.Test.YtcifkahbdimkbaaGreatDoorM05
import Derived.LoopN
import Derived.Scope
set_option linter.unusedSimpArgs false
set_option linter.unusedVariables false
-- VmE: Code.
namespace Go.Vm
open Go Go.RowKit

section
variable {P : Program} {w0 : World} {φ φ' : Phi} {g g' : List GO} {m m' : Mem} {w w' : World} {a : Act}
variable {A : Ann} {F : FAnn} {cf : CF} {vars : List V}

theorem look_dropTo_some {α : Type} {L : Nat} {m : List α} {r : Nat} {o : α} (h : look (dropTo L m) r = some o) : r < L ∧ look m r = some o := by
  have := look_lt h
  rw [length_dropTo] at this
  have h2 : r < L := by omega
  exact ⟨h2, by rw [← look_dropTo h2]; exact h⟩

theorem Inv.drop (hi : Inv w0 φ g m w) {L : Nat} (hc : Closed L m) : Inv w0 φ (dropTo L g) (dropTo L m) w := by
  refine ⟨?_, hi.base, hi.known, ?_, ?_, ?_, ?_, ?_, ?_⟩
  · rw [length_dropTo, length_dropTo, hi.len]
  · intro r cs h
    obtain ⟨hr, h⟩ := look_dropTo_some h
    obtain ⟨blk, cvs, h1, h2, h3⟩ := hi.cells r cs h
    exact ⟨blk, cvs, by rw [look_dropTo hr]; exact h1, RepL.mono (Ext.refl φ) (Le.drop g m L) _ _ (hc r hr cs h) h2, h3⟩
  · intro r s pos h
    obtain ⟨hr, h⟩ := look_dropTo_some h
    obtain ⟨blk, h1, h2⟩ := hi.iters r s pos h
    exact ⟨blk, by rw [look_dropTo hr]; exact h1, h2⟩
  · intro r ks vs h
    obtain ⟨hr, h⟩ := look_dropTo_some h
    exact hi.maps r ks vs h
  · intro k sz born xs h
    obtain ⟨hr, h⟩ := look_dropTo_some h
    obtain ⟨ra, rcap, h1, h2⟩ := hi.rows k sz born xs h
    exact ⟨ra, rcap, by rw [look_dropTo hr]; exact h1, h2⟩
  · intro r blk h
    obtain ⟨hr, h⟩ := look_dropTo_some h
    exact hi.own r blk h
  · intro r r' x y b h1 h2 h3 h4
    exact hi.apart r r' x y b (look_dropTo_some h1).2 (look_dropTo_some h2).2 h3 h4

theorem objsOK_closed {b L : Nat} : ∀ {m : Mem}, objsOK b L m = true → Closed b m → b ≤ L → Closed L m := by
  intro m h hc hb r hr cs hl
  by_cases hrb : r < b
  · exact underL_mono hb cs (hc r hrb cs hl)
  · clear hc
    induction m with
    | nil => simp [look] at hl
    | cons o m ih =>
      simp only [look] at hl
      simp only [objsOK] at h
      have hlen := fun (h' : look m r = some (.cells cs)) => look_lt h'
      split at h
      · rename_i hlt
        split at hl
        · omega
        · have := hlen hl; omega
      · simp only [Bool.and_eq_true, Bool.or_eq_true, decide_eq_true_eq] at h
        split at hl
        · rename_i e
          cases hl
          rcases h.1 with h1 | h1
          · omega
          · exact h1
        · exact ih h.2 hl

theorem killed_getD {kill : List Nat} : ∀ {vars : List V} {i : Nat}, (killed kill vars).getD i .undef = vars.getD i .undef ∨ (killed kill vars).getD i .undef = .undef := by
  induction kill with
  | nil => intro vars i; exact .inl rfl
  | cons k kill ih =>
    intro vars i
    have : killed (k :: kill) vars = killed kill (vars.set k .undef) := rfl
    rw [this]
    rcases ih (vars := vars.set k .undef) (i := i) with h | h
    · rw [h, getD_set]
      split
      · exact .inr rfl
      · exact .inl rfl
    · exact .inr h

theorem VarsOK.killed {kill : List Nat} (h : VarsOK F φ g m vars a) : VarsOK F φ g m (killed kill vars) a := by
  refine ⟨h.1, h.2.1, fun t i hs => ?_⟩
  rcases killed_getD (kill := kill) (vars := vars) (i := i) with e | e
  · rw [e]; exact h.2.2 t i hs
  · rw [e]; exact rep_undef

theorem underL_getD {L : Nat} : ∀ {vars : List V} {i : Nat}, V.underL L vars = true → (vars.getD i .undef).under L = true
  | [], i, _ => by simp [List.getD, V.under]
  | v :: l, 0, h => by simp [V.underL] at h; simpa using h.1
  | v :: l, i + 1, h => by simp [V.underL] at h; simpa using underL_getD (i := i) h.2

theorem VarsOK.drop {L : Nat} (h : VarsOK F φ g m vars a) (hu : V.underL L vars = true) : VarsOK F φ (dropTo L g) (dropTo L m) vars a :=
  ⟨h.1, h.2.1, fun t i hs => Rep.mono (Ext.refl φ) (Le.drop g m L) _ _ (underL_getD hu) (h.2.2 t i hs)⟩

/-- Regions whose order is drawn. -/
def DrawOK (P : Program) (w0 : World) (A : Ann) (F : FAnn) (cf : CF) : Prop :=
  ∀ b id ops l d Q rs vars m g φ a w, opersOf P A F ops [] ops.toList = some l → Region.departs ops = false → drawInfo F.slots (ops.toList.map (·.dst)) (preOf ops) l = some d →
    (runDraw cf b d.pre 0 l { ov := [], vars, m }).bind (drawEnd d.pairs) = some rs → Inv w0 φ g m w → Globs A φ → VarsOK F φ g m vars a → RsOK w0 φ g m F Q rs → (Code.region id ops true).wp P Q a w

theorem exec_ok (hdr : DrawOK P w0 A F cf) (hcf : CFok P w0 A cf) (hcp : CFpure cf) {b n : Nat} : ∀ (c : Code) (ks : List (List Nat)) (vc : VC) (ks' : List (List Nat)), codeOf P A F c ks = some (vc, ks') →
    ∀ (vars : List V) (m : Mem) (rs : Rs) (g : List GO) (φ : Phi) (a : Act) (w : World) (Q : Exit → Act → World → Prop),
      exec cf b n vc vars m = some rs → b ≤ m.length → Closed b m → Inv w0 φ g m w → Globs A φ → VarsOK F φ g m vars a → RsOK w0 φ g m F Q rs → c.wp P Q a w := by
  intro c
  induction c with
  | skip =>
    intro ks vc ks' h vars m rs g φ a w Q hx hb hc hi hg hv hq
    simp only [codeOf, Option.some.injEq, Prod.mk.injEq] at h
    obtain ⟨rfl, _⟩ := h
    simp only [exec, Option.some.injEq] at hx
    subst hx
    exact wp_skip (hq a w φ g (Goes.refl hi) hv)
  | region id ops d =>
    intro ks vc ks' h vars m rs g φ a w Q hx hb hc hi hg hv hq
    simp only [codeOf] at h
    obtain ⟨l, hl, h⟩ := obind h
    cases d with
    | true =>
      simp only [if_true] at h
      split at h
      · simp at h
      · rename_i ht
        obtain ⟨i, h1, h2⟩ := omap h
        cases h2
        simp only [exec] at hx
        exact hdr b id ops l i Q rs vars m g φ a w hl (by simpa using ht) h1 hx hi hg hv hq
    | false =>
      simp only [Bool.false_eq_true, if_false, Option.some.injEq, Prod.mk.injEq] at h
      obtain ⟨rfl, _⟩ := h
      simp only [exec] at hx
      refine wp_region ?_
      have := runOps_ok hcf hcp (Q := Q) (rs := rs) l 0 [] [] vars m g φ a w (by simpa using hl) (by omega) hx hi hg hv (OvOK.nil (ov := [])) hq
      rwa [Nat.sub_zero, ← List.range_eq_range'] at this
  | seq x y ihx ihy =>
    intro ks vc ks' h vars m rs g φ a w Q hx hb hc hi hg hv hq
    simp only [codeOf] at h
    obtain ⟨⟨vx, k1⟩, h1, h⟩ := obind h
    obtain ⟨⟨vy, k2⟩, h2, h3⟩ := omap h
    cases h3
    simp only [exec] at hx
    refine wp_seq ?_
    split at hx
    · rename_i vars' m' hx1
      obtain ⟨p1, p2⟩ := exec_pure hcp n vx vars m _ hb hx1
      simp only [Rs.mem] at p1 p2
      refine ihx ks vx k1 h1 vars m _ g φ a w _ hx1 hb hc hi hg hv ?_
      intro a' w' φ' g' hgo hv'
      exact ihy k1 vy _ h2 vars' m' rs g' φ' a' w' Q hx (by omega) (p2 b (Nat.le_refl _) hc) hgo.inv (hg.ext hgo.ext) hv' (hq.after hgo p1)
    · rename_i hne
      refine ihx ks vx k1 h1 vars m _ g φ a w _ hx hb hc hi hg hv ?_
      cases rs with
      | nrm vars' m' => exact absurd hx (hne vars' m')
      | exit id vars m' => exact hq
      | ret vars m' => exact hq
      | pan v m' => exact hq
  | cond c x y ihx ihy =>
    intro ks vc ks' h vars m rs g φ a w Q hx hb hc hi hg hv hq
    simp only [codeOf] at h
    obtain ⟨oc, h0, h⟩ := obind h
    obtain ⟨⟨vx, k1⟩, h1, h⟩ := obind h
    obtain ⟨⟨vy, k2⟩, h2, h3⟩ := omap h
    cases h3
    simp only [exec] at hx
    have ht := told_of hg hv (OvOK.nil (ov := ([] : List V))) c oc h0
    split at hx
    · rename_i e
      rw [e] at ht
      exact wp_cond_true (rep_bool ht) (ihx ks vx k1 h1 vars m rs g φ a w Q hx hb hc hi hg hv hq)
    · rename_i e
      rw [e] at ht
      exact wp_cond_false (rep_bool ht) (ihy k1 vy _ h2 vars m rs g φ a w Q hx hb hc hi hg hv hq)
    · simp at hx
  | block id c ih =>
    intro ks vc ks' h vars m rs g φ a w Q hx hb hc hi hg hv hq
    simp only [codeOf] at h
    obtain ⟨⟨vx, k1⟩, h1, h3⟩ := omap h
    cases h3
    simp only [exec] at hx
    refine wp_block ?_
    split at hx
    · rename_i id' vars' m' hx1
      refine ih ks vx _ h1 vars m _ g φ a w _ hx1 hb hc hi hg hv ?_
      intro a' w' φ' g' hgo hv'
      split at hx
      · rename_i e
        cases hx
        simp only [Exit.inBlock, e, if_true]
        exact hq a' w' φ' g' hgo hv'
      · rename_i e
        cases hx
        simp only [Exit.inBlock, e, if_false]
        exact hq a' w' φ' g' hgo hv'
    · rename_i hne
      refine ih ks vx _ h1 vars m rs g φ a w _ hx hb hc hi hg hv ?_
      cases rs with
      | nrm vars' m' => exact hq
      | exit id' vars' m' => exact absurd hx (hne id' vars' m')
      | ret vars m' => exact hq
      | pan v m' => exact hq
  | loop c ih =>
    intro ks vc ks' h vars m rs g φ a w Q hx hb hc hi hg hv hq
    simp only [codeOf] at h
    obtain ⟨⟨vx, k1⟩, h1, h3⟩ := omap h
    cases h3
    simp only [exec] at hx
    refine wp_loop_rounds n ?_
    have key : ∀ (j : Nat) (vars1 : List V) (m1 : Mem) (g1 : List GO) (φ1 : Phi) (a : Act) (w : World), m.length ≤ m1.length → Closed b m1 → Goes w0 φ g m φ1 g1 m1 w → Globs A φ1 → VarsOK F φ1 g1 m1 vars1 a →
        rounds b m.length (ks.headD []) (exec cf b n vx) j vars1 m1 = some rs → Code.rounds P c Q j a w := by
      intro j
      induction j with
      | zero => intro vars m g φ a w _ _ _ _ _ hr; simp [rounds] at hr
      | succ j ihj =>
        intro vars1 m1 g1 φ1 a w hl hc hgo0 hg hv hr
        simp only [rounds] at hr
        split at hr
        · simp at hr
        · rename_i vars2 m2 hfr
          obtain ⟨rfl, rfl, hu, ho⟩ := fresh_some hfr
          have hcl := objsOK_closed ho hc hb
          have hi1 := hgo0.inv.drop hcl
          have hv1 := hv.killed.drop hu
          have hlen : (dropTo m.length m1).length = m.length := by rw [length_dropTo]; omega
          have hc1 : Closed b (dropTo m.length m1) := hc.drop hb
          have hgo1 : Goes w0 φ g m φ1 (dropTo m.length g1) (dropTo m.length m1) w := ⟨hi1, hgo0.ext, hgo0.le.trans (Le.drop g1 m1 m.length)⟩
          have hq1 := hq.after hgo1 (by omega)
          rw [rounds_succ]
          split at hr
          · rename_i vars3 m3 hr1
            obtain ⟨p1, p2⟩ := exec_pure hcp n vx _ _ _ (by omega) hr1
            simp only [Rs.mem] at p1 p2
            refine ih _ vx _ h1 _ _ _ _ φ1 a w _ hr1 (by omega) hc1 hi1 hg hv1 ?_
            intro a' w' φ' g' hgo hv'
            exact ihj vars3 m3 g' φ' a' w' (by omega) (p2 b (Nat.le_refl _) hc1) (hgo1.trans hgo (by omega)) (hg.ext hgo.ext) hv' hr
          · rename_i hne
            refine ih _ vx _ h1 _ _ rs _ φ1 a w _ hr (by omega) hc1 hi1 hg hv1 ?_
            cases rs with
            | nrm vars' m' => exact absurd hr (hne vars' m')
            | exit id vars m' => exact hq1
            | ret vars m' => exact hq1
            | pan v m' => exact hq1
    exact key n vars m g φ a w (Nat.le_refl _) hc (Goes.refl hi) hg hv hx
  | rangeFunc f ps as c => intro ks vc ks' h; simp [codeOf] at h
  | exit id =>
    intro ks vc ks' h vars m rs g φ a w Q hx hb hc hi hg hv hq
    simp only [codeOf, Option.some.injEq, Prod.mk.injEq] at h
    obtain ⟨rfl, _⟩ := h
    simp only [exec, Option.some.injEq] at hx
    subst hx
    exact wp_exit (hq a w φ g (Goes.refl hi) hv)
  | scope c ih =>
    intro ks vc ks' h vars m rs g φ a w Q hx hb hc hi hg hv hq
    simp only [codeOf] at h
    refine wp_scope_straight (ih ks vc ks' h vars m rs g φ a w _ hx hb hc hi hg hv ?_)
    cases rs <;> exact hq
  | refuse _ => intro ks vc ks' h; simp [codeOf] at h
  | label l => intro ks vc ks' h; simp [codeOf] at h
  | goto l => intro ks vc ks' h; simp [codeOf] at h
  | ret =>
    intro ks vc ks' h vars m rs g φ a w Q hx hb hc hi hg hv hq
    simp only [codeOf, Option.some.injEq, Prod.mk.injEq] at h
    obtain ⟨rfl, _⟩ := h
    simp only [exec, Option.some.injEq] at hx
    subst hx
    exact wp_ret (hq a w φ g (Goes.refl hi) hv)
end
end Go.Vm
