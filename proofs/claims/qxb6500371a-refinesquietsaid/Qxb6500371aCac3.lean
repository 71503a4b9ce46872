import Derived.Test.Qxb6500371aCac2
set_option linter.unusedVariables false
set_option linter.unusedSimpArgs false
namespace Go.Proofs.Qxb6500371a.W
open Go.RowKit Go.Maps

set_option maxHeartbeats 400000 in
set_option maxRecDepth 4000 in
theorem cclear_calls {w : World} {p pm mp : Nat} {c : CS} {m : MS} {tail : List Value} {t : TypeId} (h : CacAt w p pm c tail t) (hM : MemAt w pm mp m) (h1 : p ≠ pm) (h2 : p ≠ mp) :
    Calls Try.prog 121 #[.pointer (some ⟨p, 0, none⟩)] w fun x w' => x = .returned (.tuple #[]) ∧ CacAt w' p pm { c with full := false } tail t ∧ MemAt w' pm mp zeroM ∧ Chg [p, pm, mp] w w' := by
  have c0 : w.cell? ⟨p, 0, none⟩ = some (.pointer (some ⟨pm, 0, none⟩)) := cell_of h rfl
  have c4 : w.cell? ⟨p, 4, none⟩ = some (.bool c.full) := cell_of h rfl
  have f4 : w.frozen? ⟨p, 4, none⟩ = false := frozen_of h
  have H : Hid (CacAt w p pm c tail t) := h
  have HM : Hid (MemAt w pm mp m) := hM
  clear h hM
  go_enter Try.func121, Try.ntmps121
  go_wp2_with fail
  have hC : Chg [p] w (w.setCell ⟨p, 4, none⟩ (.bool false)) := (Chg.refl _ _).setCell (Or.inl (by simp)) _
  have hk : CacAt (w.setCell ⟨p, 4, none⟩ (.bool false)) p pm { c with full := false } tail t := by
    rw [CacAt, heap_setCell_same w p 4 _ _ (.bool false) H.out]
    simp
  refine (clear_calls (HM.out.chg hC (by simpa using h1.symm) (by simpa using h2.symm))).mono ?_
  rintro e w1 ⟨rfl, hm1, hc1⟩
  have HM1 : Hid (MemAt w1 pm mp zeroM) := hm1
  have HC1 : Hid (Chg [pm, mp] (w.setCell ⟨p, 4, none⟩ (.bool false)) w1) := hc1
  have HK : Hid (CacAt w1 p pm { c with full := false } tail t) := hk.chg hc1 (by simp [h1, h2])
  have HC : Hid (Chg [p] w (w.setCell ⟨p, 4, none⟩ (.bool false))) := hC
  clear hm1 hc1 hk hC
  go_wp2
  go_end0
  exact ⟨rfl, HK.out, HM1.out, (HC.out.mono (by simp)).trans (HC1.out.mono (by simp))⟩

set_option maxRecDepth 4000 in
theorem chits_calls {w : World} {p pm : Nat} {c : CS} {tail : List Value} {t : TypeId} (h : CacAt w p pm c tail t) :
    Calls Try.prog 124 #[.pointer (some ⟨p, 0, none⟩)] w fun e w' => e = .returned (.int .i64 c.hits) ∧ w' = w := by
  have c1 : w.cell? ⟨p, 1, none⟩ = some (.int .i64 c.hits) := cell_of h rfl
  clear h
  go_enter Try.func124, Try.ntmps124
  go_wp2
  go_ret
  exact ⟨rfl, rfl⟩

set_option maxRecDepth 4000 in
theorem cname_calls (w : World) (v : Value) :
    Calls Try.prog 125 #[v] w fun e w' => e = .returned (.string ⟨#[99, 97, 99, 104, 101, 100]⟩) ∧ w' = w := by
  go_enter Try.func125, Try.ntmps125
  go_wp2
  go_ret
  exact ⟨rfl, rfl⟩
end Go.Proofs.Qxb6500371a.W
