import Derived.Test.Qxb6500371aCac3
set_option linter.unusedVariables false
set_option linter.unusedSimpArgs false
namespace Go.Proofs.Qxb6500371a.W
open Go.RowKit Go.Maps

def keyS (c : CS) : ByteArray := if c.full then (itoa c.key ++ ⟨#[58]⟩) ++ itoa c.val else ⟨#[45]⟩
def tellMem (m : MS) : ByteArray := tellM m 4 ++ ⟨#[93]⟩
def tellC (c : CS) (m : MS) : ByteArray := ((((⟨#[99, 97, 99, 104, 101, 100, 91, 104, 105, 116, 115, 61]⟩ ++ itoa c.hits) ++ ⟨#[32, 107, 101, 121, 61]⟩) ++ keyS c) ++ ⟨#[93, 32]⟩) ++ tellMem m
def CS.ok (c : CS) : Prop := i64ok c.hits ∧ i64ok c.key ∧ i64ok c.val
def MS.ok (m : MS) : Prop := ∀ i, i < 4 → i64ok (m.val i)

theorem tellMem_size (m : MS) : (tellMem m).size ≤ 300 := by
  have := tellM_size m 4
  have e : (⟨#[93]⟩ : ByteArray).size = 1 := rfl
  rw [tellMem, ByteArray.size_append, e]
  omega

set_option maxHeartbeats 400000 in
set_option maxRecDepth 4000 in
theorem ctell_calls {w : World} {p pm mp : Nat} {c : CS} {m : MS} {tail : List Value} {t : TypeId} (h : CacAt w p pm c tail t) (hM : MemAt w pm mp m) (hc : c.ok) (hm : m.ok) :
    Calls Try.prog 127 #[.pointer (some ⟨p, 0, none⟩)] w fun x w' => x = .returned (.string (tellC c m)) ∧ Chg [] w w' := by
  have c1 : w.cell? ⟨p, 1, none⟩ = some (.int .i64 c.hits) := cell_of h rfl
  have H : Hid (CacAt w p pm c tail t) := h
  have HM : Hid (MemAt w pm mp m) := hM
  have HO : Hid c.ok := hc
  have HN : Hid m.ok := hm
  clear h hM hc hm
  go_enter Try.func127, Try.ntmps127
  go_wp2_with fail
  refine (itoa_calls c.hits HO.out.1.1 HO.out.1.2 _).mono ?_
  rintro e w1 ⟨rfl, hc1⟩
  have h1 : CacAt w1 p pm c tail t := H.out.chg hc1 (by simp)
  have d4 : w1.cell? ⟨p, 4, none⟩ = some (.bool c.full) := cell_of h1 rfl
  have d2 : w1.cell? ⟨p, 2, none⟩ = some (.int .i64 c.key) := cell_of h1 rfl
  have d0 : w1.cell? ⟨p, 0, none⟩ = some (.pointer (some ⟨pm, 0, none⟩)) := cell_of h1 rfl
  have H1 : Hid (CacAt w1 p pm c tail t) := h1
  have HC1 : Hid (Chg [] w w1) := hc1
  clear h1 hc1
  have s1 := itoa_size c.hits
  have s2 := itoa_size c.key
  have s3 := itoa_size c.val
  have s4 := tellMem_size m
  cases hf : c.full with
  | false =>
    rw [hf] at d4
    go_wp2_with fail
    refine (tell_calls (HM.out.chg HC1.out (by simp) (by simp)) HN.out).mono ?_
    rintro e w2 ⟨rfl, hc2⟩
    have HC2 : Hid (Chg [] w1 w2) := hc2
    clear hc2
    have et : tellM m 4 ++ ⟨#[93]⟩ = tellMem m := rfl
    rw [et]
    clear et
    go_wp2
    go_ret
    exact ⟨by rw [tellC, keyS, hf]; rfl, HC1.out.trans HC2.out⟩
  | true =>
    rw [hf] at d4
    go_wp2_with fail
    refine (itoa_calls c.key HO.out.2.1.1 HO.out.2.1.2 _).mono ?_
    rintro e w2 ⟨rfl, hc2⟩
    have h2 : CacAt w2 p pm c tail t := H1.out.chg hc2 (by simp)
    have g3 : w2.cell? ⟨p, 3, none⟩ = some (.int .i64 c.val) := cell_of h2 rfl
    have H2 : Hid (CacAt w2 p pm c tail t) := h2
    have HC2 : Hid (Chg [] w1 w2) := hc2
    clear h2 hc2 d0 d2 d4
    go_wp2_with fail
    refine (itoa_calls c.val HO.out.2.2.1 HO.out.2.2.2 _).mono ?_
    rintro e w3 ⟨rfl, hc3⟩
    have h3 : CacAt w3 p pm c tail t := H2.out.chg hc3 (by simp)
    have k0 : w3.cell? ⟨p, 0, none⟩ = some (.pointer (some ⟨pm, 0, none⟩)) := cell_of h3 rfl
    have HC3 : Hid (Chg [] w w3) := (HC1.out.trans HC2.out).trans hc3
    clear h3 hc3 g3
    go_wp2_with fail
    refine (tell_calls (HM.out.chg HC3.out (by simp) (by simp)) HN.out).mono ?_
    rintro e w4 ⟨rfl, hc4⟩
    have HC4 : Hid (Chg [] w3 w4) := hc4
    clear hc4
    have et : tellM m 4 ++ ⟨#[93]⟩ = tellMem m := rfl
    rw [et]
    clear et
    go_wp2
    go_ret
    exact ⟨by rw [tellC, keyS, hf]; rfl, HC3.out.trans HC4.out⟩
end Go.Proofs.Qxb6500371a.W
