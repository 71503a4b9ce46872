import Derived.Test.Qxb6500371aCac
set_option linter.unusedVariables false
set_option linter.unusedSimpArgs false
namespace Go.Proofs.Qxb6500371a.W
open Go.RowKit Go.Maps

/-- A Put of a Cached: the error, the Cached, the table. -/
def putC (c : CS) (m : MS) (k v : Int) : Int × CS × MS := if (putM m k v).1 = 0 then (0, forgetC c k, (putM m k v).2) else ((putM m k v).1, c, (putM m k v).2)
def delC (c : CS) (m : MS) (k : Int) : Int × CS × MS := if (delM m k).1 = 0 then (0, forgetC c k, (delM m k).2) else ((delM m k).1, c, (delM m k).2)

set_option maxHeartbeats 400000 in
set_option maxRecDepth 4000 in
theorem cput_calls {w : World} {p pm mp : Nat} {c : CS} {m : MS} {tail : List Value} {t : TypeId} (h : CacAt w p pm c tail t) (hM : MemAt w pm mp m) (h1 : p ≠ pm) (h2 : p ≠ mp) (k v : Int) (hk : i64ok k) :
    Calls Try.prog 126 #[.pointer (some ⟨p, 0, none⟩), .int .i64 k, .int .i64 v] w fun x w' => x = .returned (.int .i64 (putC c m k v).1) ∧ CacAt w' p pm (putC c m k v).2.1 tail t ∧ MemAt w' pm mp (putC c m k v).2.2 ∧ Chg [p, pm, mp] w w' := by
  have c0 : w.cell? ⟨p, 0, none⟩ = some (.pointer (some ⟨pm, 0, none⟩)) := cell_of h rfl
  have H : Hid (CacAt w p pm c tail t) := h
  have HM : Hid (MemAt w pm mp m) := hM
  clear h hM
  go_enter Try.func126, Try.ntmps126
  go_wp2_with fail
  refine (put_calls HM.out k v hk).mono ?_
  rintro e w1 ⟨rfl, hm1, hc1⟩
  have HM1 : Hid (MemAt w1 pm mp (putM m k v).2) := hm1
  have HC1 : Hid (Chg [pm, mp] w w1) := hc1
  have HK : Hid (CacAt w1 p pm c tail t) := H.out.chg hc1 (by simp [h1, h2])
  clear hm1 hc1
  by_cases he : (putM m k v).1 = 0
  · have e1 : putC c m k v = (0, forgetC c k, (putM m k v).2) := by rw [putC, if_pos he]
    rw [he]
    have E1 : Hid (putC c m k v = (0, forgetC c k, (putM m k v).2)) := e1
    clear e1 he
    go_wp2_with fail
    refine (forget_calls HK.out k).mono ?_
    rintro e w2 ⟨rfl, h3, hc2⟩
    have H3 : Hid (CacAt w2 p pm (forgetC c k) tail t) := h3
    have HC2 : Hid (Chg [p] w1 w2) := hc2
    clear h3 hc2
    go_wp2
    go_ret
    rw [E1.out]
    exact ⟨rfl, H3.out, HM1.out.chg HC2.out (by simpa using h1.symm) (by simpa using h2.symm), (HC1.out.mono (by simp)).trans (HC2.out.mono (by simp))⟩
  · have e1 : putC c m k v = ((putM m k v).1, c, (putM m k v).2) := by rw [putC, if_neg he]
    have E1 : Hid (putC c m k v = ((putM m k v).1, c, (putM m k v).2)) := e1
    have he' : ((putM m k v).1 == 0) = false := by simpa using he
    clear e1
    go_wp2
    go_ret
    rw [E1.out]
    exact ⟨rfl, HK.out, HM1.out, HC1.out.mono (by simp)⟩

set_option maxHeartbeats 400000 in
set_option maxRecDepth 4000 in
theorem cdel_calls {w : World} {p pm mp : Nat} {c : CS} {m : MS} {tail : List Value} {t : TypeId} (h : CacAt w p pm c tail t) (hM : MemAt w pm mp m) (h1 : p ≠ pm) (h2 : p ≠ mp) (k : Int) (hk : i64ok k) :
    Calls Try.prog 122 #[.pointer (some ⟨p, 0, none⟩), .int .i64 k] w fun x w' => x = .returned (.int .i64 (delC c m k).1) ∧ CacAt w' p pm (delC c m k).2.1 tail t ∧ MemAt w' pm mp (delC c m k).2.2 ∧ Chg [p, pm, mp] w w' := by
  have c0 : w.cell? ⟨p, 0, none⟩ = some (.pointer (some ⟨pm, 0, none⟩)) := cell_of h rfl
  have H : Hid (CacAt w p pm c tail t) := h
  have HM : Hid (MemAt w pm mp m) := hM
  clear h hM
  go_enter Try.func122, Try.ntmps122
  go_wp2_with fail
  refine (del_calls HM.out k hk).mono ?_
  rintro e w1 ⟨rfl, hm1, hc1⟩
  have HM1 : Hid (MemAt w1 pm mp (delM m k).2) := hm1
  have HC1 : Hid (Chg [pm, mp] w w1) := hc1
  have HK : Hid (CacAt w1 p pm c tail t) := H.out.chg hc1 (by simp [h1, h2])
  clear hm1 hc1
  by_cases he : (delM m k).1 = 0
  · have e1 : delC c m k = (0, forgetC c k, (delM m k).2) := by rw [delC, if_pos he]
    rw [he]
    have E1 : Hid (delC c m k = (0, forgetC c k, (delM m k).2)) := e1
    clear e1 he
    go_wp2_with fail
    refine (forget_calls HK.out k).mono ?_
    rintro e w2 ⟨rfl, h3, hc2⟩
    have H3 : Hid (CacAt w2 p pm (forgetC c k) tail t) := h3
    have HC2 : Hid (Chg [p] w1 w2) := hc2
    clear h3 hc2
    go_wp2
    go_ret
    rw [E1.out]
    exact ⟨rfl, H3.out, HM1.out.chg HC2.out (by simpa using h1.symm) (by simpa using h2.symm), (HC1.out.mono (by simp)).trans (HC2.out.mono (by simp))⟩
  · have e1 : delC c m k = ((delM m k).1, c, (delM m k).2) := by rw [delC, if_neg he]
    have E1 : Hid (delC c m k = ((delM m k).1, c, (delM m k).2)) := e1
    have he' : ((delM m k).1 == 0) = false := by simpa using he
    clear e1
    go_wp2
    go_ret
    rw [E1.out]
    exact ⟨rfl, HK.out, HM1.out, HC1.out.mono (by simp)⟩
end Go.Proofs.Qxb6500371a.W
