import Derived.Test.Qxb6500371aMdA
import Derived.Test.Qxb6500371aKw
set_option linter.unusedVariables false
set_option linter.unusedSimpArgs false
namespace Go.Proofs.Qxb6500371a.W
open Go.RowKit Go.Maps

theorem wrap_small {x : Int} (h0 : 0 ≤ x) (h1 : x ≤ 9000000000000) : wrap64 x = x := by
  unfold wrap64
  omega

theorem turn_num {N : Nat} (hN : (N : Int) < 4398046511104) {g : GS} (hc : ∀ i, 0 ≤ g.puts i ∧ g.puts i ≤ N ∧ 0 ≤ g.dels i ∧ g.dels i ≤ N) (ev k : Int) : ∀ (j i : Nat),
    g.puts i ≤ (turnG g ev k j).puts i ∧ (turnG g ev k j).puts i ≤ g.puts i + 1 ∧ g.dels i ≤ (turnG g ev k j).dels i ∧ (turnG g ev k j).dels i ≤ g.dels i + 1
  | 0, i => by
    rw [turnG]
    omega
  | j + 1, i => by
    have ih := turn_num hN hc ev k j i
    have hi := hc i
    by_cases e : i = j
    · subst e
      obtain ⟨_, h2, h3, _, _⟩ := turnG_agree g ev k i i (Nat.le_refl _)
      rw [turnG, turn1]
      split
      · split <;> exact ih
      · split
        · simp only [upd, if_pos]
          rw [h2, wrap_small (by omega) (by omega)]
          omega
        · simp only [upd, if_pos]
          rw [h3, wrap_small (by omega) (by omega)]
          omega
    · rw [turnG, turn1]
      split
      · split <;> exact ih
      · split
        · simp only [upd, if_neg e]
          exact ih
        · simp only [upd, if_neg e]
          exact ih

theorem Cnt.turn {N : Nat} {g : GS} (h : Cnt N g) (hN : (N : Int) < 4398046511104) (ev k : Int) (j : Nat) : Cnt (N + 1) (turnG g ev k j) := by
  obtain ⟨r1, r2, r3⟩ := turnG_rest g ev k j
  have hk := turnG_kind g ev k j
  refine ⟨fun i => ?_, fun x e hx hk1 => ?_, fun x e hx => ?_, fun hx => ?_⟩
  · have := turn_num hN h.num ev k j i
    have := h.num i
    omega
  · rw [r2] at e
    rw [hk] at hk1
    have := h.thn x e hx hk1
    have := turn_num hN h.num ev k j (x - 1)
    rw [r3]
    omega
  · rw [r2] at e
    rw [hk] at hx
    rw [r3]
    exact h.none x e hx
  · rw [r2] at hx
    rw [r3]
    exact h.no hx

theorem Cnt.more {N : Nat} {g : GS} (h : Cnt N g) : Cnt (N + 1) g :=
  ⟨fun i => by have := h.num i; omega, h.thn, h.none, h.no⟩

theorem Cnt.alike {N : Nat} {g g' : GS} (h : Cnt N g) (e1 : g'.puts = g.puts) (e2 : g'.dels = g.dels) (e3 : g'.kind = g.kind) (e4 : g'.held = g.held) (e5 : g'.thn = g.thn) : Cnt N g' := by
  refine ⟨fun i => ?_, fun x e hx hk1 => ?_, fun x e hx => ?_, fun hx => ?_⟩
  · rw [e1, e2]; exact h.num i
  · rw [e4] at e; rw [e3] at hk1; rw [e5, e1, e2]; exact h.thn x e hx hk1
  · rw [e4] at e; rw [e3] at hx; rw [e5]; exact h.none x e hx
  · rw [e4] at hx; rw [e5]; exact h.no hx

theorem Cnt.got {N : Nat} {g : GS} (h : Cnt N g) (n : Nat) (k : Int) : Cnt N (gotG g n k).2.2 := by
  unfold gotG
  split
  · exact h.alike rfl rfl rfl rfl rfl
  · split
    · simp only
      split
      · exact h.alike rfl rfl rfl rfl rfl
      · exact h
    · exact h

theorem Cnt.laid {N : Nat} {g : GS} (h : Cnt N g) (hN : (N : Int) < 4398046511104) (n : Nat) (k v : Int) : Cnt (N + 1) (laidG g n k v).2 := by
  unfold laidG
  split
  · split
    · exact h.more
    · exact Cnt.turn (g := { g with m := (putM g.m k v).2 }) (h.alike rfl rfl rfl rfl rfl) hN _ _ _
  · exact h.more

theorem cnt_step {N : Nat} {S : RS} {g : GS} (hr : Rel S g) (h : Cnt N g) (hN : (N : Int) < 4398046511104) (o : OpD) : Cnt (N + 1) (owesG g o).2 := by
  unfold owesG
  by_cases k1 : o.kind = 1
  · rw [if_pos k1]
    split
    · exact h.more
    · split
      · exact h.more
      · split
        · exact h.more
        · have hin := heldIn_of hr
          refine ⟨fun i => by have := h.num i; simp only; omega, fun x e hx hk1 => ?_, fun x e hx => ?_, fun hx => h.no hx⟩
          · simp only [upd] at e hk1 ⊢
            have hxn : ¬ x - 1 = g.n := by
              rcases hin with e2 | ⟨q, hq, e2⟩
              · omega
              · omega
            rw [if_neg hxn] at hk1
            exact h.thn x e hx hk1
          · simp only [upd] at e hx ⊢
            refine h.none x e ?_
            rcases hx with hx | hx
            · exact Or.inl hx
            · by_cases hx0 : x = 0
              · exact Or.inl hx0
              · have hxn : ¬ x - 1 = g.n := by
                  rcases hin with e2 | ⟨q, hq, e2⟩
                  · omega
                  · omega
                rw [if_neg hxn] at hx
                exact Or.inr hx
  rw [if_neg k1]
  by_cases k2 : o.kind = 2
  · rw [if_pos k2]
    exact (h.got _ _).more
  rw [if_neg k2]
  by_cases k3 : o.kind = 3
  · rw [if_pos k3]
    exact h.laid hN _ _ _
  rw [if_neg k3]
  by_cases k4 : o.kind = 4
  · rw [if_pos k4]
    split
    · exact Cnt.turn (g := { g with m := (delM g.m o.a).2 }) (h.alike rfl rfl rfl rfl rfl) hN _ _ _
    · exact h.more
  rw [if_neg k4]
  by_cases k12 : o.kind = 12
  · rw [if_pos k12]
    exact (Cnt.alike (g' := { g with m := zeroM, c := { g.c with full := false } }) h rfl rfl rfl rfl rfl).more
  rw [if_neg k12]
  by_cases k5 : o.kind = 5
  · rw [if_pos k5]
    exact h.more
  rw [if_neg k5]
  by_cases k6 : o.kind = 6
  · rw [if_pos k6]
    exact h.more
  rw [if_neg k6]
  by_cases k7 : o.kind = 7
  · rw [if_pos k7]
    split <;> exact h.more
  rw [if_neg k7]
  by_cases k8 : o.kind = 8
  · rw [if_pos k8]
    refine ⟨fun i => by have := h.num i; simp only; omega, fun x e hx hk1 => ?_, fun x e hx => ?_, fun hx => ?_⟩
    · simp only at e hk1 ⊢
      obtain rfl : x = g.n := by omega
      rw [if_pos ⟨hx, hk1⟩]
      have := h.num (g.n - 1)
      rw [wrap_small (by omega) (by omega)]
      omega
    · simp only at e hx ⊢
      obtain rfl : x = g.n := by omega
      rw [if_neg (by omega)]
    · simp only at hx
      omega
  rw [if_neg k8]
  by_cases k14 : o.kind = 14
  · rw [if_pos k14]
    exact h.more
  rw [if_neg k14]
  by_cases k9 : o.kind = 9
  · rw [if_pos k9]
    split
    · exact h.more
    · exact (h.got _ _).more
  rw [if_neg k9]
  by_cases k13 : o.kind = 13
  · rw [if_pos k13]
    split
    · exact h.more
    · exact h.laid hN _ _ _
  rw [if_neg k13]
  by_cases k11 : o.kind = 11
  · rw [if_pos k11]
    exact h.more
  · rw [if_neg k11]
    exact h.more

theorem cnt_zero : Cnt 0 gZero := by
  refine ⟨fun i => by simp [gZero], fun x e hx _ => ?_, fun x e hx => rfl, fun hx => rfl⟩
  have e2 : (-1 : Int) = x := e
  omega

set_option maxRecDepth 4000 in
theorem mnew_calls (w : World) : Calls Try.prog 48 #[] w fun x w' => x = .returned (pt w.heap.size) ∧ MI w' w.heap.size gZero none 0 ∧ Chg [] w w' := by
  have HF : Hid (MI (w.alloc (.cells (mdCells 0 gZero (.slice none 0 0)) 84)) w.heap.size gZero none 0) :=
    ⟨heap_alloc_new _ _, Or.inl ⟨rfl, rfl, rfl⟩, by simp [ownB], by simp [ownB]⟩
  go_enter Try.func48, Try.ntmps48
  go_wp2
  go_ret
  exact ⟨rfl, HF.out, (Chg.refl _ _).alloc _⟩

set_option maxHeartbeats 1000000 in
set_option maxRecDepth 4000 in
theorem seen_calls {w : World} {px pm mp pd cap N : Nat} {lp : Option Addr} {S : RS} {g : GS} (hx : ChainAt w px pm mp S) (hm : MI w pd g lp cap) (hal : MAll N S g) :
    Calls Try.prog 49 #[pt px, pt pd] w fun x w' => x = .returned (.bool true) ∧ Chg [] w w' := by
  have HX : Hid (ChainAt w px pm mp S) := hx
  have HM : Hid (MI w pd g lp cap) := hm
  have HA : Hid (MAll N S g) := hal
  clear hx hm hal
  go_enter Try.func49, Try.ntmps49
  go_wp2_with fail
  refine (xshow_calls HX.out HA.out.rel.ok).mono ?_
  rintro x w1 ⟨rfl, hc1⟩
  have HC1 : Hid (Chg [] w w1) := hc1
  clear hc1
  rw [rel_show HA.out.rel]
  go_wp2_with fail
  refine (mshow_calls (MdAt.chg HM.out HC1.out (by simp)) (gm_of HA.out.rel) (heldIn_of HA.out.rel) HA.out.rel.gok).mono ?_
  rintro x w2 ⟨rfl, hc2⟩
  have HC2 : Hid (Chg [] w w2) := HC1.out.trans hc2
  clear hc2
  go_wp2_with fail
  refine (xcheck_calls (HX.out.chg HC2.out (by simp)) HA.out.rel.ok HA.out.rel.zero HA.out.rel.keyed).mono ?_
  rintro x w3 ⟨rfl, hc3⟩
  have HC3 : Hid (Chg [] w w3) := HC2.out.trans hc3
  clear hc3
  go_wp2_with fail
  refine (mcheck_calls (MdAt.chg HM.out HC3.out (by simp)) (gm_of HA.out.rel) (heldIn_of HA.out.rel) HA.out.small HA.out.cnt HA.out.key).mono ?_
  rintro x w4 ⟨rfl, hc4⟩
  have HC4 : Hid (Chg [] w w4) := HC3.out.trans hc4
  clear hc4
  have hbs := ba_self (shownG g)
  go_wp2
  go_ret
  exact ⟨rfl, HC4.out⟩
end Go.Proofs.Qxb6500371a.W
