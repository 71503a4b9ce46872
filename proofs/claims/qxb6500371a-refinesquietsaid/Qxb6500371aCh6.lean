import Derived.Test.Qxb6500371aCh5
set_option linter.unusedVariables false
set_option linter.unusedSimpArgs false
namespace Go.Proofs.Qxb6500371a.W
open Go.RowKit Go.Maps

def atS (S : RS) : ByteArray := match S.held with
  | none => ⟨#[45]⟩
  | some (h, _, _) => itoa h
def sinceS (S : RS) : ByteArray := if (sinceR S).2 = 0 then itoa (sinceR S).1 else ⟨#[45]⟩

/-- Show, from its parts. -/
def showP (name n at_ since rest : ByteArray) : ByteArray :=
  (((((((((⟨#[110, 97, 109, 101, 61]⟩ ++ name) ++ ⟨#[32, 108, 97, 121, 101, 114, 115, 61]⟩) ++ n) ++ ⟨#[32, 104, 101, 108, 100, 61]⟩) ++ at_) ++ ⟨#[32, 115, 105, 110, 99, 101, 61]⟩) ++ since) ++ ⟨#[32, 124, 32]⟩) ++ rest)
def showR (S : RS) : ByteArray := showP (nameL S.ls) (itoa S.ls.length) (atS S) (sinceS S) (tellL S.ls S.m)

theorem nameL_size : ∀ ls : List Layer, (nameL ls).size ≤ 6
  | [] => by decide
  | .cached _ _ :: _ => Nat.le_refl 6
  | .limited _ _ :: _ => Nat.le_refl 6
  | .logged _ _ :: r => nameL_size r

theorem since_ok (S : RS) : i64ok (sinceR S).1 := by
  unfold sinceR
  split
  · exact ⟨by decide, by decide⟩
  · split
    · exact wrap64_ok _
    · exact ⟨by decide, by decide⟩

set_option maxHeartbeats 2000000 in
set_option maxRecDepth 4000 in
theorem xshow_calls {w : World} {px pm mp : Nat} {S : RS} (h : ChainAt w px pm mp S) (ho : S.ok) :
    Calls Try.prog 39 #[pt px] w fun x w' => x = .returned (.string (showR S)) ∧ Chg [] w w' := by
  have hn := ho.len
  obtain ⟨T, tv, ht, hmt⟩ := tell_meth pm S.ls
  have hmn := name_meth h.st hn ht
  have hcf := fun args w => callFb (baseF 113 125 S.ls) (by rcases baseF_in 113 125 S.ls with e | e <;> rw [e] <;> simp) args w
  have hct := fun args w => callFt (tellF S.ls) (tellF_in S.ls) args w
  have c0 : w.cell? ⟨px, 0, none⟩ = some (.iface T tv) := by rw [← ht]; exact cell_of h.row rfl
  have c1 : w.cell? ⟨px, 1, none⟩ = some (.int .i64 S.ls.length) := cell_of h.row rfl
  have s1 := nameL_size S.ls
  have s2 := itoa_size S.ls.length
  have s3 := itoa_size (sinceR S).1
  have s4 : (tellL S.ls S.m).size ≤ 2000 := by have := tellL_size S.m S.ls; omega
  have H : Hid (ChainAt w px pm mp S) := h
  have HO : Hid S.ok := ho
  have HT : Hid (topV pm S.ls = .iface T tv) := ht
  clear h ho ht
  go_enter Try.func39, Try.ntmps39
  go_wp2_with fail
  refine (nameL_calls S.ls w).mono ?_
  rintro x w1 ⟨rfl, rfl⟩
  clear hmn hcf
  go_wp2_with fail
  refine (itoa_calls S.ls.length (by omega) (by omega) _).mono ?_
  rintro x w2 ⟨rfl, hc2⟩
  have h2 := H.out.chg hc2 (by simp)
  have d4 : w2.cell? ⟨px, 4, none⟩ = some (atV S) := cell_of h2.row rfl
  have H2 : Hid (ChainAt w2 px pm mp S) := h2
  have HC2 : Hid (Chg [] w1 w2) := hc2
  clear hc2 h2 c0 c1
  have fin : ∀ w3 : World, ∀ a : ByteArray, ChainAt w3 px pm mp S → Chg [] w1 w3 → True := fun _ _ _ _ => trivial
  clear fin
  have hs0 : (sinceR S).2 = 0 ∨ ¬ (sinceR S).2 = 0 := Classical.em _
  cases hh : S.held with
  | none =>
    have e1 : atV S = .int .i64 (-1) := by rw [atV, hh]
    have e2 : atS S = ⟨#[45]⟩ := by rw [atS, hh]
    have e3 : sinceR S = (0, 8) := by rw [sinceR, hh]
    have e4 : sinceS S = ⟨#[45]⟩ := by rw [sinceS, e3]; rfl
    rw [e1] at d4
    have E : Hid (atS S = ⟨#[45]⟩ ∧ sinceS S = ⟨#[45]⟩) := ⟨e2, e4⟩
    have E3 : Hid (sinceR S = (0, 8)) := e3
    clear e1 e2 e3 e4 hh hs0
    go_wp2_with fail
    refine (xsince_calls H2.out).mono ?_
    rintro x w3 ⟨rfl, hc3⟩
    rw [E3.out]
    have h3 := H2.out.chg hc3 (by simp)
    have g0 : w3.cell? ⟨px, 0, none⟩ = some (.iface T tv) := by rw [← HT.out]; exact cell_of h3.row rfl
    have H3 : Hid (ChainAt w3 px pm mp S) := h3
    have HC3 : Hid (Chg [] w1 w3) := HC2.out.trans hc3
    clear hc3 h3 d4
    go_wp2_with fail
    refine (tellL_calls HO.out.mok S.ls w3 H3.out.st HO.out.len HO.out.lay).mono ?_
    rintro x w4 ⟨rfl, hc4⟩
    have HC4 : Hid (Chg [] w1 w4) := HC3.out.trans hc4
    clear hc4
    go_wp2
    go_ret
    refine ⟨?_, HC4.out⟩
    rw [showR, showP, E.out.1, E.out.2]
    rfl
  | some z =>
    obtain ⟨q, a, b⟩ := z
    have hq := HO.out.hld q a b hh
    have e1 : atV S = .int .i64 (q : Nat) := by rw [atV, hh]
    have e2 : atS S = itoa (q : Nat) := by rw [atS, hh]
    rw [e1] at d4
    have hd : decide ((0 : Int) ≤ ((q : Nat) : Int)) = true := by simp
    have E : Hid (atS S = itoa (q : Nat)) := e2
    have s5 := itoa_size (q : Nat)
    clear e1 e2 hh
    go_wp2_with fail
    refine (itoa_calls (q : Nat) (by omega) (by omega) _).mono ?_
    rintro x w3 ⟨rfl, hc3⟩
    have HC3 : Hid (Chg [] w1 w3) := HC2.out.trans hc3
    have H3 : Hid (ChainAt w3 px pm mp S) := H2.out.chg hc3 (by simp)
    clear hc3 d4 H2
    go_wp2_with fail
    refine (xsince_calls H3.out).mono ?_
    rintro x w4 ⟨rfl, hc4⟩
    have h4 := H3.out.chg hc4 (by simp)
    have g0 : w4.cell? ⟨px, 0, none⟩ = some (.iface T tv) := by rw [← HT.out]; exact cell_of h4.row rfl
    have H4 : Hid (ChainAt w4 px pm mp S) := h4
    have HC4 : Hid (Chg [] w1 w4) := HC3.out.trans hc4
    clear hc4 h4 H3
    have hok := since_ok S
    rcases hs0 with hs | hs
    · have e5 : sinceS S = itoa (sinceR S).1 := by rw [sinceS, if_pos hs]
      have E5 : Hid (sinceS S = itoa (sinceR S).1) := e5
      have hs' : ((sinceR S).2 == 0) = true := by simpa using hs
      clear e5 hs
      go_wp2_with fail
      refine (itoa_calls _ hok.1 hok.2 _).mono ?_
      rintro x w5 ⟨rfl, hc5⟩
      have h5 := H4.out.chg hc5 (by simp)
      have k0 : w5.cell? ⟨px, 0, none⟩ = some (.iface T tv) := by rw [← HT.out]; exact cell_of h5.row rfl
      have H5 : Hid (ChainAt w5 px pm mp S) := h5
      have HC5 : Hid (Chg [] w1 w5) := HC4.out.trans hc5
      clear hc5 h5 g0 H4
      go_wp2_with fail
      refine (tellL_calls HO.out.mok S.ls w5 H5.out.st HO.out.len HO.out.lay).mono ?_
      rintro x w6 ⟨rfl, hc6⟩
      have HC6 : Hid (Chg [] w1 w6) := HC5.out.trans hc6
      clear hc6
      go_wp2
      go_ret
      refine ⟨?_, HC6.out⟩
      rw [showR, showP, E.out, E5.out]
      rfl
    · have e5 : sinceS S = ⟨#[45]⟩ := by rw [sinceS, if_neg hs]
      have E5 : Hid (sinceS S = ⟨#[45]⟩) := e5
      have hs' : ((sinceR S).2 == 0) = false := by simpa using hs
      clear e5 hs
      go_wp2_with fail
      refine (tellL_calls HO.out.mok S.ls w4 H4.out.st HO.out.len HO.out.lay).mono ?_
      rintro x w6 ⟨rfl, hc6⟩
      have HC6 : Hid (Chg [] w1 w6) := HC4.out.trans hc6
      clear hc6
      go_wp2
      go_ret
      refine ⟨?_, HC6.out⟩
      rw [showR, showP, E.out, E5.out]
      rfl
end Go.Proofs.Qxb6500371a.W
