import Derived.Test.Qxb6500374aSz
import Derived.BigQuiet
set_option linter.unusedVariables false
set_option linter.unusedSimpArgs false
namespace Go.Proofs.Qxb6500374a.W
open Go.RowKit Go.Maps

/-- Note, plainly. -/
def noteS (S : WS) (h t : Int) : Int × WS :=
  if isR h t = true then
    if t = 0 then (if 10 ≤ nums S.cn + S.nn then (3, S) else (0, { S with nn := S.nn + 1 }))
    else if S.cn (rj h.toNat t.toNat) = 0 ∧ 10 ≤ nums S.cn + S.nn then (3, S) else (0, { S with cn := upd S.cn (rj h.toNat t.toNat) (S.cn (rj h.toNat t.toNat) + 1) })
  else (5, S)
/-- Count, plainly. -/
def countS (S : WS) (h t : Int) : Int × Int := if isR h t = true then (if t = 0 then 0 else S.cn (rj h.toNat t.toNat), 0) else (0, 5)
/-- Drop, plainly. -/
def dropS (S : WS) (h t : Int) : Int × Int × WS := if isR h t = true then (if t = 0 then (0, 0, S) else if 0 < S.cn (rj h.toNat t.toNat) then (1, 0, { S with cn := upd S.cn (rj h.toNat t.toNat) 0 }) else (0, 0, S)) else (0, 5, S)

set_option maxHeartbeats 4000000 in
set_option maxRecDepth 4000 in
theorem note_calls {w : World} {px pa ph : Nat} {B C : Nat → Nat} {S : WS} (h : WAt w px pa ph B C S) (ho : S.ok) (hcap : ∀ j, j < 7 → S.cn j < 4611686018427387904) (hi t : Int) :
    Calls Try.prog 28 #[pt px, .int .i64 hi, .int .i64 t] w fun x w' => x = .returned (.int .i64 (noteS S hi t).1) ∧ WStp px pa ph B C S (noteS S hi t).2 w w' := by
  have H : Hid (WAt w px pa ph B C S) := h
  have HO : Hid S.ok := ho
  cases hr : isR hi t with
  | false =>
    have e : noteS S hi t = (5, S) := by simp [noteS, hr]
    rw [e]
    have HR : Hid (isR hi t = false) := hr
    clear h ho hcap e hr
    go_enter Try.func28, Try.ntmps28
    go_wp2_with fail
    refine (isRate_calls hi t w).mono ?_
    rintro x w2 ⟨rfl, hw2⟩
    obtain rfl : w = w2 := hw2.symm
    clear hw2
    rw [HR.out]
    go_wp2
    go_ret
    exact ⟨rfl, WStp.same H.out HO.out.aok (Chg.refl _ _)⟩
  | true =>
    have HR : Hid (isR hi t = true) := hr
    obtain ⟨a, b, hab, hb4, rfl, rfl⟩ := isR_iff.1 hr
    have hs := ho.small
    rcases Nat.eq_zero_or_pos b with h0 | h0
    · -- 0/0
      have e : noteS S a b = if 10 ≤ nums S.cn + S.nn then (3, S) else (0, { S with nn := S.nn + 1 }) := by
        rw [noteS, if_pos hr, if_pos (by omega)]
      have H0 : Hid (b = 0) := h0
      clear h0
      have hW : WAt w.drew px pa ph B C S := h.chg ho.aok (Chg.refl [] w).drew (by simp)
      have c1 : w.cell? ⟨px, 1, none⟩ = some (.map (some ph)) := cell_of h.row rfl
      have HHST : Hid (HistAt w.drew ph S.cn S.nn) := hW.hist
      have hl := hW.hist.len
      by_cases hf : 10 ≤ nums S.cn + S.nn
      · rw [e, if_pos hf]
        clear h ho hcap e hr hW
        go_enter Try.func28, Try.ntmps28
        go_wp2_with fail
        refine (isRate_calls a b w).mono ?_
        rintro x w2 ⟨rfl, hw2⟩
        obtain rfl : w = w2 := hw2.symm
        clear hw2
        rw [HR.out]
        go_wp2_with fail
        refine (rate_calls hab hb4 w).mono ?_
        rintro x w2 (⟨h1, _⟩ | ⟨_, b, hb, rfl, rfl⟩)
        · have := H0.out; omega
        have hk := HHST.out.lookNan hb
        obtain ⟨hk1, hk2⟩ := hk
        clear hb
        have d : decide (10 ≤ nums S.cn + S.nn) = true := by simpa using hf
        generalize nums S.cn + S.nn = n at *
        go_wp2
        go_ret
        exact ⟨rfl, WStp.same H.out HO.out.aok (Chg.refl _ _).drew⟩
      · rw [e, if_neg hf]
        clear h ho hcap e hr
        go_enter Try.func28, Try.ntmps28
        go_wp2_with fail
        refine (isRate_calls a b w).mono ?_
        rintro x w2 ⟨rfl, hw2⟩
        obtain rfl : w = w2 := hw2.symm
        clear hw2
        rw [HR.out]
        go_wp2_with fail
        refine (rate_calls hab hb4 w).mono ?_
        rintro x w2 (⟨h1, _⟩ | ⟨_, b, hb, rfl, rfl⟩)
        · have := H0.out; omega
        obtain ⟨hk1, hk2⟩ := HHST.out.lookNan hb
        obtain ⟨w3, hput, hh3, hc3⟩ := HHST.out.putNan hb
        have HS : Hid (WStp px pa ph B C S { S with nn := S.nn + 1 } w w3) := by
          have := WStp.hist H.out HO.out.aok hh3 ((Chg.refl _ _).drew.trans hc3)
          exact this
        clear hb hW hh3 hc3
        have d : decide (10 ≤ nums S.cn + S.nn) = false := by simpa using hf
        generalize nums S.cn + S.nn = n at *
        go_wp2
        go_ret
        exact ⟨rfl, HS.out⟩
    · have hjl := rj_lt a b
      have e : noteS S a b = if S.cn (rj a b) = 0 ∧ 10 ≤ nums S.cn + S.nn then (3, S) else (0, { S with cn := upd S.cn (rj a b) (S.cn (rj a b) + 1) }) := by
        rw [noteS, if_pos hr, if_neg (by omega)]
        simp
      have c1 : w.cell? ⟨px, 1, none⟩ = some (.map (some ph)) := cell_of h.row rfl
      have hl := h.hist.len
      obtain ⟨hk1, hk2⟩ := h.hist.look hjl
      have hpos : 0 ≤ S.cn (rj a b) := by obtain ⟨_, _, _, hok⟩ := h.hist; exact hok.pos _ hjl
      have hlt := hcap _ hjl
      by_cases hz : S.cn (rj a b) = 0 ∧ 10 ≤ nums S.cn + S.nn
      · rw [e, if_pos hz]
        have d1 : decide (0 < S.cn (rj a b)) = false := by simp; omega
        have d2 : 10 ≤ nums S.cn + S.nn := hz.2
        rw [d1] at hk2
        clear h ho hcap e hr hz hlt
        generalize hx : fb (rj a b) = fx at *
        generalize S.cn (rj a b) = cc at *
        generalize nums S.cn + S.nn = n at *
        go_enter Try.func28, Try.ntmps28
        go_wp2_with fail
        refine (isRate_calls a b w).mono ?_
        rintro x w2 ⟨rfl, hw2⟩
        obtain rfl : w = w2 := hw2.symm
        clear hw2
        rw [HR.out]
        go_wp2_with fail
        refine (rate_calls hab hb4 w).mono ?_
        rintro x w2 (⟨_, rfl, hw2⟩ | ⟨h1, _⟩)
        · obtain rfl : w = w2 := hw2.symm
          clear hw2
          rw [hx]
          go_wp2
          go_ret
          exact ⟨rfl, WStp.same H.out HO.out.aok (Chg.refl _ _)⟩
        · omega
      · rw [e, if_neg hz]
        obtain ⟨w3, hput, hh3, hc3⟩ := h.hist.put hjl (x := S.cn (rj a b) + 1) (by omega)
        have HS : Hid (WStp px pa ph B C S { S with cn := upd S.cn (rj a b) (S.cn (rj a b) + 1) } w w3) := WStp.hist h ho.aok hh3 hc3
        have hov1 : -9223372036854775808 ≤ S.cn (rj a b) + 1 := by omega
        have hov2 : S.cn (rj a b) + 1 ≤ 9223372036854775807 := by omega
        by_cases hp : 0 < S.cn (rj a b)
        · have d1 : decide (0 < S.cn (rj a b)) = true := by simpa using hp
          rw [d1] at hk2
          clear h ho hcap e hr hz hlt hh3 hc3 hpos hp
          generalize hx : fb (rj a b) = fx at *
          generalize S.cn (rj a b) = cc at *
          generalize nums S.cn + S.nn = n at *
          go_enter Try.func28, Try.ntmps28
          go_wp2_with fail
          refine (isRate_calls a b w).mono ?_
          rintro x w2 ⟨rfl, hw2⟩
          obtain rfl : w = w2 := hw2.symm
          clear hw2
          rw [HR.out]
          go_wp2_with fail
          refine (rate_calls hab hb4 w).mono ?_
          rintro x w2 (⟨_, rfl, hw2⟩ | ⟨h1, _⟩)
          · obtain rfl : w = w2 := hw2.symm
            clear hw2
            rw [hx]
            go_wp2
            go_ret
            exact ⟨rfl, HS.out⟩
          · omega
        · have d1 : decide (0 < S.cn (rj a b)) = false := by simpa using hp
          have d2 : nums S.cn + S.nn < 10 := by
            have : S.cn (rj a b) = 0 := by omega
            by_cases h10 : 10 ≤ nums S.cn + S.nn
            · exact absurd ⟨this, h10⟩ hz
            · omega
          rw [d1] at hk2
          clear h ho hcap e hr hz hlt hh3 hc3 hpos hp
          generalize hx : fb (rj a b) = fx at *
          generalize S.cn (rj a b) = cc at *
          generalize nums S.cn + S.nn = n at *
          go_enter Try.func28, Try.ntmps28
          go_wp2_with fail
          refine (isRate_calls a b w).mono ?_
          rintro x w2 ⟨rfl, hw2⟩
          obtain rfl : w = w2 := hw2.symm
          clear hw2
          rw [HR.out]
          go_wp2_with fail
          refine (rate_calls hab hb4 w).mono ?_
          rintro x w2 (⟨_, rfl, hw2⟩ | ⟨h1, _⟩)
          · obtain rfl : w = w2 := hw2.symm
            clear hw2
            rw [hx]
            go_wp2
            go_ret
            exact ⟨rfl, HS.out⟩
          · omega
end Go.Proofs.Qxb6500374a.W
