import Derived.Test.Qxb6500371aMd3
import Derived.Test.Qxb6500371aOw7
set_option linter.unusedVariables false
set_option linter.unusedSimpArgs false
namespace Go.Proofs.Qxb6500371a.W
open Go.RowKit Go.Maps

/-- What a step of the model leaves. -/
structure MStp (pd b : Nat) (base : Int) (lp : Option Addr) (cap : Nat) (g' : GS) (w w' : World) : Prop where
  at_ : MdAt w' pd b base g' lp cap
  chg : Chg (pd :: ownB lp) w w'

set_option maxRecDepth 4000 in
theorem mputt_calls {w : World} {pd b cap : Nat} {base : Int} {g : GS} {lp : Option Addr} (h : MdAt w pd b base g lp cap) (hm : GM b base g) (k v : Int) :
    Calls Try.prog 75 #[pt pd, .int .i64 k, .int .i64 v] w fun x w' => x = .returned (.int .i64 (laidG g g.n k v).1) ∧ MStp pd b base lp cap (laidG g g.n k v).2 w w' := by
  have H : Hid (MdAt w pd b base g lp cap) := h
  have HM : Hid (GM b base g) := hm
  clear h hm
  go_enter Try.func75, Try.ntmps75
  go_wp2_with fail
  refine (layers_calls H.out HM.out).mono ?_
  rintro x w2 ⟨rfl, hw2⟩
  obtain rfl : w = w2 := hw2.symm
  clear hw2
  go_wp2_with fail
  refine (mput_calls H.out HM.out k v g.n (Nat.le_refl _)).mono ?_
  rintro x w3 ⟨rfl, hg3, hc3⟩
  have HG3 : Hid (MStp pd b base lp cap (laidG g g.n k v).2 w w3) := ⟨hg3, hc3⟩
  clear hg3 hc3
  go_wp2
  go_ret
  exact ⟨rfl, HG3.out⟩

def delG (g : GS) (k : Int) : GS := if (delM g.m k).1 = 0 then turnG { g with m := (delM g.m k).2 } 68 k g.n else g

set_option maxHeartbeats 1000000 in
set_option maxRecDepth 4000 in
theorem mdel_calls {w : World} {pd b cap : Nat} {base : Int} {g : GS} {lp : Option Addr} (h : MdAt w pd b base g lp cap) (hm : GM b base g) (k : Int) :
    Calls Try.prog 76 #[pt pd, .int .i64 k] w fun x w' => x = .returned (.int .i64 (delM g.m k).1) ∧ MStp pd b base lp cap (delG g k) w w' := by
  have H : Hid (MdAt w pd b base g lp cap) := h
  have HM : Hid (GM b base g) := hm
  have hn4 := hm.n
  have ff : ∀ i, w.frozen? ⟨pd, i, none⟩ = false := fun _ => frozen_of h.row
  by_cases h0 : (rowR g.m k).2.2 = 0
  · obtain ⟨i, hi, rfl, hh⟩ := row_ok h0
    have ci : w.cell? ⟨pd, i, none⟩ = some (.bool (g.m.has i)) := cell_of h.row (md_has _ _ _ hi)
    have cv : w.cell? ⟨pd, 4 + i, none⟩ = some (.int .i64 (g.m.val i)) := cell_of h.row (md_val _ _ _ hi)
    have ed : delM g.m (i : Int) = (0, (g.m.setHas i false).setVal i 0) := delM_ok hi hh
    have ED : Hid ((delM g.m (i : Int)).1 = 0 ∧ delG g i = turnG { g with m := (g.m.setHas i false).setVal i 0 } 68 i g.n) := by
      show _ ∧ _
      rw [delG, ed]
      exact ⟨rfl, rfl⟩
    have HR : Hid ((rowR g.m (i : Int)).2.2 = 0) := h0
    clear h hm h0 ed hh
    go_enter Try.func76, Try.ntmps76
    go_wp2_with fail
    refine (table_calls H.out _).mono ?_
    rintro x w2 ⟨rfl, hw2⟩
    obtain rfl : w = w2 := hw2.symm
    clear hw2
    rw [HR.out]
    go_wp2_with fail
    go_region
    all_goals
      go_wp2_with fail
      have hst := (H.out.set (ms_has _ _ _ hi false) rfl (same4 g)).set (ms_val _ _ _ hi 0) rfl (same4 g)
      have hst2 := hst.chg (bs := []) ((Chg.refl _ _).drew) (by simp)
      refine (layers_calls hst2 (HM.out.m _)).mono ?_
      rintro x w3 ⟨rfl, hw3⟩
      subst hw3
      go_wp2_with fail
      refine (mturn_loop hst2 (HM.out.m _) 68 i g.n (Nat.le_refl _)).mono ?_
      rintro x w3 ⟨rfl, hg3, hc3⟩
      have HG3 : Hid _ := hg3
      have HC3 : Hid (Chg (pd :: ownB lp) w w3) := ((((Chg.refl _ w).setCell (Or.inl (by simp)) _).setCell (Or.inl (by simp)) _).drew).trans hc3
      clear hg3 hc3 hst hst2
      go_wp2
      go_ret
      rw [ED.out.2, ED.out.1]
      exact ⟨rfl, HG3.out, HC3.out⟩
  · have ed : delM g.m k = ((rowR g.m k).2.2, g.m) := delM_err h0
    have ED : Hid ((delM g.m k).1 = (rowR g.m k).2.2 ∧ delG g k = g) := by
      show _ ∧ _
      rw [delG, ed]
      exact ⟨rfl, if_neg h0⟩
    have hz : ((rowR g.m k).2.2 != 0) = true := by simpa using h0
    have H0 : Hid (¬ (rowR g.m k).2.2 = 0) := h0
    clear h hm h0 ed
    go_enter Try.func76, Try.ntmps76
    go_wp2_with fail
    refine (table_calls H.out _).mono ?_
    rintro x w2 ⟨rfl, hw2⟩
    obtain rfl : w = w2 := hw2.symm
    clear hw2
    go_wp2
    go_ret
    rw [ED.out.2, ED.out.1]
    exact ⟨rfl, H.out, Chg.refl _ _⟩

set_option maxHeartbeats 1000000 in
set_option maxRecDepth 4000 in
theorem mclear_calls {w : World} {pd b cap : Nat} {base : Int} {g : GS} {lp : Option Addr} (h : MdAt w pd b base g lp cap) :
    Calls Try.prog 77 #[pt pd] w fun x w' => x = .returned (.int .i64 0) ∧ MStp pd b base lp cap { g with m := zeroM, c := { g.c with full := false } } w w' := by
  have H : Hid (MdAt w pd b base g lp cap) := h
  clear h
  go_enter Try.func77, Try.ntmps77
  go_wp2_with fail
  go_loopw [3] (fun v3 wr => ∃ j : Nat, j ≤ 4 ∧ v3 = .int .i64 j ∧ MStp pd b base lp cap { g with m := zeroTo g.m j } w wr) (fun v3 _ => (4 - intOf v3).toNat)
  case atStart => exact ⟨0, by omega, rfl, by rw [zeroTo_zero]; exact ⟨H.out, Chg.refl _ _⟩⟩
  case round =>
    obtain ⟨j, hj, rfl, hp⟩ := hrel
    have HP : Hid (MStp pd b base lp cap { g with m := zeroTo g.m j } w wr) := hp
    have ff : ∀ i, wr.frozen? ⟨pd, i, none⟩ = false := fun _ => frozen_of hp.at_.row
    have c10 : wr.cell? ⟨pd, 10, none⟩ = some (.bool g.c.full) := cell_of hp.at_.row rfl
    by_cases hj4 : j < 4
    · have ci : wr.cell? ⟨pd, j, none⟩ = some (.bool ((zeroTo g.m j).has j)) := cell_of hp.at_.row (md_has _ { g with m := zeroTo g.m j } _ hj4)
      have cv : wr.cell? ⟨pd, 4 + j, none⟩ = some (.int .i64 ((zeroTo g.m j).val j)) := cell_of hp.at_.row (md_val _ { g with m := zeroTo g.m j } _ hj4)
      clear hp
      go_wp2_with fail
      go_region
      all_goals
        go_wp2
        have hg2 := (HP.out.at_.set (ms_has _ { g with m := zeroTo g.m j } _ hj4 false) rfl (same4 g)).set (ms_val _ _ _ hj4 0) rfl (same4 g)
        have e : (({ g with m := zeroTo g.m j } : GS).m.setHas j false).setVal j 0 = zeroTo g.m (j + 1) := zeroTo_step g.m j
        rw [e] at hg2
        have hg3 := hg2.chg (bs := []) ((Chg.refl _ _).drew) (by simp)
        exact ⟨⟨j + 1, by omega, by simp, hg3, ((HP.out.chg.setCell (Or.inl (by simp)) _).setCell (Or.inl (by simp)) _).drew⟩, by simp [intOf]; omega⟩
    · have ej : Hid (j = 4) := by show j = 4; omega
      clear hp
      go_wp2
      go_ret
      have hg1 : MdAt wr pd b base { g with m := zeroM } lp cap := by
        have q := HP.out.at_
        rw [ej.out] at q
        refine ⟨?_, q.logs, q.apart, q.lt⟩
        rw [q.row]
        rfl
      exact ⟨rfl, hg1.set (ms_full _ _ _ false) rfl (same4 g), HP.out.chg.setCell (Or.inl (by simp)) _⟩

set_option maxRecDepth 4000 in
theorem mname_calls {w : World} {pd b cap : Nat} {base : Int} {g : GS} {lp : Option Addr} (h : MdAt w pd b base g lp cap) (hm : GM b base g) :
    Calls Try.prog 79 #[pt pd] w fun x w' => x = .returned (.string (namedG g)) ∧ w' = w := by
  have c8 : w.cell? ⟨pd, 8, none⟩ = some (.int .i64 base) := cell_of h.row rfl
  have hany := anyS_gm hm g.n (Nat.le_refl _)
  rcases hm.bb with ⟨rfl, rfl, _⟩ | ⟨rfl, h1, h2, h3⟩
  · have E : Hid (namedG g = ⟨#[109, 101, 109]⟩) := by show namedG g = _; rw [namedG, hany]; rfl
    clear h hm hany
    go_enter Try.func79, Try.ntmps79
    go_wp2
    go_ret
    exact ⟨by rw [E.out]; rfl, rfl⟩
  · have E : Hid (namedG g = ⟨#[99, 97, 99, 104, 101, 100]⟩) := by show namedG g = _; rw [namedG, hany]; simp; omega
    have hb : (base != 0) = true := by simp; omega
    clear h hm hany h1 h2 h3
    go_enter Try.func79, Try.ntmps79
    go_wp2
    go_ret
    exact ⟨by rw [E.out]; rfl, rfl⟩

/-- Hits, by the ghost. -/
def hitsG (g : GS) : Int × Int := if g.n = 0 ∨ g.kind (g.n - 1) = 1 then (0, 7) else (g.c.hits, 0)

set_option maxRecDepth 4000 in
theorem mhits_calls {w : World} {pd b cap : Nat} {base : Int} {g : GS} {lp : Option Addr} (h : MdAt w pd b base g lp cap) (hm : GM b base g) :
    Calls Try.prog 80 #[pt pd] w fun x w' => x = .returned (.tuple #[.int .i64 (hitsG g).1, .int .i64 (hitsG g).2]) ∧ w' = w := by
  have c8 : w.cell? ⟨pd, 8, none⟩ = some (.int .i64 base) := cell_of h.row rfl
  have c9 : w.cell? ⟨pd, 9, none⟩ = some (.int .i64 g.c.hits) := cell_of h.row rfl
  have c13 : w.cell? ⟨pd, 13, none⟩ = some (.slice lp (g.n - b : Nat) cap) := cell_of h.row rfl
  have hn4 := hm.n
  rcases hm.bb with ⟨rfl, rfl, _⟩ | ⟨rfl, h1, h2, h3⟩
  · have E : Hid (hitsG g = (0, 7)) := by
      show hitsG g = _
      rw [hitsG, if_pos]
      by_cases h0 : g.n = 0
      · exact Or.inl h0
      · exact Or.inr (hm.logs (g.n - 1) (by omega) (by omega))
    clear h hm
    go_enter Try.func80, Try.ntmps80
    go_wp2
    go_ret2
    exact ⟨by rw [E.out]; rfl, rfl⟩
  · have hb : (base == 0) = false := by simp; omega
    by_cases hl : 0 < g.n - 1
    · have E : Hid (hitsG g = (0, 7)) := by
        show hitsG g = _
        rw [hitsG, if_pos (Or.inr (hm.logs (g.n - 1) (by omega) (by omega)))]
      have d1 : decide (0 < g.n - 1) = true := by simpa using hl
      clear h hm h1 h2 h3
      go_enter Try.func80, Try.ntmps80
      go_wp2
      all_goals (go_ret2; exact ⟨by rw [E.out]; rfl, rfl⟩)
    · have E : Hid (hitsG g = (g.c.hits, 0)) := by
        show hitsG g = _
        have e : g.n - 1 = 0 := by omega
        rw [hitsG, if_neg (by rw [e]; omega)]
      have e : g.n - 1 = 0 := by omega
      rw [e] at c13
      clear h hm h1 h2 h3 hl e
      go_enter Try.func80, Try.ntmps80
      go_wp2
      go_ret2
      exact ⟨by rw [E.out]; rfl, rfl⟩
end Go.Proofs.Qxb6500371a.W
