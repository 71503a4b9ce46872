import Derived.Test.Qxb6500371aCh4
set_option linter.unusedVariables false
set_option linter.unusedSimpArgs false
namespace Go.Proofs.Qxb6500371a.W
open Go.RowKit Go.Maps

@[go_sem] theorem eq_fn51 (f : Fn) (a b : Array Value) (w : World) : (binOp .eql 51 (.func f a b) .nilFunc).run Try.prog w = .ok (.bool false) w := by kernel_rfl
@[go_sem] theorem eq_nil51 (w : World) : (binOp .eql 51 .nilFunc .nilFunc).run Try.prog w = .ok (.bool true) w := by kernel_rfl
@[go_sem] theorem eq_fn52 (f : Fn) (a b : Array Value) (w : World) : (binOp .eql 52 (.func f a b) .nilFunc).run Try.prog w = .ok (.bool false) w := by kernel_rfl
@[go_sem] theorem eq_nil52 (w : World) : (binOp .eql 52 .nilFunc .nilFunc).run Try.prog w = .ok (.bool true) w := by kernel_rfl
@[go_sem] theorem eq_fn54 (f : Fn) (a b : Array Value) (w : World) : (binOp .eql 54 (.func f a b) .nilFunc).run Try.prog w = .ok (.bool false) w := by kernel_rfl
@[go_sem] theorem eq_nil54 (w : World) : (binOp .eql 54 .nilFunc .nilFunc).run Try.prog w = .ok (.bool true) w := by kernel_rfl

def heldGetR (S : RS) (k : Int) : Int × Int × RS := match S.held with
  | none => (0, 8, S)
  | some (h, _, _) => ((getL (subL S.ls h) S.m k).1, (getL (subL S.ls h) S.m k).2.1, ⟨S.m, replL S.ls h (getL (subL S.ls h) S.m k).2.2, S.held⟩)
def heldPutR (S : RS) (k v : Int) : Int × RS := match S.held with
  | none => (8, S)
  | some (h, _, _) => ((putL (subL S.ls h) S.m k v).1, ⟨(putL (subL S.ls h) S.m k v).2.2, replL S.ls h (putL (subL S.ls h) S.m k v).2.1, S.held⟩)
def sinceR (S : RS) : Int × Int := match S.held with
  | none => (0, 8)
  | some (h, a, b) => match subL S.ls h with
    | .logged _ l :: _ => (wrap64 (wrap64 (l.puts + l.dels) - wrap64 (a + b)), 0)
    | _ => (0, 7)

theorem StackAt.subL {w : World} {pm mp : Nat} {m : MS} {ls : List Layer} (h : StackAt w pm mp m ls) (n : Nat) : StackAt w pm mp m (subL ls n) := by
  rw [← List.take_append_drop (ls.length - n) ls] at h
  exact StackAt.sub h

set_option maxHeartbeats 1000000 in
set_option maxRecDepth 4000 in
theorem xhget_calls {w : World} {px pm mp : Nat} {S : RS} (h : ChainAt w px pm mp S) (hn : S.ls.length ≤ 4) (k : Int) (hk : i64ok k) :
    Calls Try.prog 60 #[pt px, .int .i64 k] w fun x w' => x = .returned (.tuple #[.int .i64 (heldGetR S k).1, .int .i64 (heldGetR S k).2.1]) ∧ Stp px pm mp S (heldGetR S k).2.2 w w' := by
  have c2 : w.cell? ⟨px, 2, none⟩ = some (fnV "Get" pm S) := cell_of h.row rfl
  have H : Hid (ChainAt w px pm mp S) := h
  cases hh : S.held with
  | none =>
    have e : heldGetR S k = (0, 8, S) := by rw [heldGetR, hh]
    have e2 : fnV "Get" pm S = .nilFunc := by rw [fnV, hh]
    rw [e2] at c2
    rw [e]
    clear h hh e e2
    go_enter Try.func60, Try.ntmps60
    go_wp2
    go_ret2
    exact ⟨rfl, Stp.same H.out (Chg.refl _ _)⟩
  | some z =>
    obtain ⟨q, a, b⟩ := z
    have e : heldGetR S k = ((getL (subL S.ls q) S.m k).1, (getL (subL S.ls q) S.m k).2.1, ⟨S.m, replL S.ls q (getL (subL S.ls q) S.m k).2.2, S.held⟩) := by rw [heldGetR, hh]
    have e2 : fnV "Get" pm S = .func (.method "Get") #[topV pm (subL S.ls q)] #[] := by rw [fnV, hh]
    obtain ⟨T, tv, ht⟩ := top_iface pm (subL S.ls q)
    have hm := get_meth (h.st.subL q) (by simp [subL]; omega) ht
    have hcf := fun args w => callFb (baseF 86 123 (subL S.ls q)) (by rcases baseF_in 86 123 (subL S.ls q) with e | e <;> rw [e] <;> simp) args w
    rw [e2, ht] at c2
    have E : Hid (heldGetR S k = ((getL (subL S.ls q) S.m k).1, (getL (subL S.ls q) S.m k).2.1, ⟨S.m, replL S.ls q (getL (subL S.ls q) S.m k).2.2, S.held⟩)) := e
    clear h hh e e2 ht
    go_enter Try.func60, Try.ntmps60
    go_wp2_with fail
    refine (getL_calls k hk (subL S.ls q) S.m w (H.out.st.subL q)).mono ?_
    rintro e w2 ⟨rfl, hs2, hc2⟩
    have G : Hid (Stp px pm mp S ⟨S.m, replL S.ls q (getL (subL S.ls q) S.m k).2.2, S.held⟩ w w2) := Stp.of H.out q (getL_sh _ _ _) hs2 hc2
    clear hs2 hc2
    go_wp2
    go_ret2
    rw [E.out]
    exact ⟨rfl, G.out⟩

set_option maxHeartbeats 1000000 in
set_option maxRecDepth 4000 in
theorem xhput_calls {w : World} {px pm mp : Nat} {S : RS} (h : ChainAt w px pm mp S) (k v : Int) (hk : i64ok k) :
    Calls Try.prog 61 #[pt px, .int .i64 k, .int .i64 v] w fun x w' => x = .returned (.int .i64 (heldPutR S k v).1) ∧ Stp px pm mp S (heldPutR S k v).2 w w' := by
  have c3 : w.cell? ⟨px, 3, none⟩ = some (fnV "Put" pm S) := cell_of h.row rfl
  have H : Hid (ChainAt w px pm mp S) := h
  cases hh : S.held with
  | none =>
    have e : heldPutR S k v = (8, S) := by rw [heldPutR, hh]
    have e2 : fnV "Put" pm S = .nilFunc := by rw [fnV, hh]
    rw [e2] at c3
    rw [e]
    clear h hh e e2
    go_enter Try.func61, Try.ntmps61
    go_wp2
    go_ret
    exact ⟨rfl, Stp.same H.out (Chg.refl _ _)⟩
  | some z =>
    obtain ⟨q, a, b⟩ := z
    have e : heldPutR S k v = ((putL (subL S.ls q) S.m k v).1, ⟨(putL (subL S.ls q) S.m k v).2.2, replL S.ls q (putL (subL S.ls q) S.m k v).2.1, S.held⟩) := by rw [heldPutR, hh]
    have e2 : fnV "Put" pm S = .func (.method "Put") #[topV pm (subL S.ls q)] #[] := by rw [fnV, hh]
    obtain ⟨T, tv, ht, hm⟩ := put_meth pm (subL S.ls q)
    have hcf := fun args w => callF (putF (subL S.ls q)) (putF_in (subL S.ls q)) args w
    rw [e2, ht] at c3
    have E : Hid (heldPutR S k v = ((putL (subL S.ls q) S.m k v).1, ⟨(putL (subL S.ls q) S.m k v).2.2, replL S.ls q (putL (subL S.ls q) S.m k v).2.1, S.held⟩)) := e
    clear h hh e e2 ht
    go_enter Try.func61, Try.ntmps61
    go_wp2_with fail
    refine (putL_calls k v hk (subL S.ls q) S.m w (H.out.st.subL q)).mono ?_
    rintro e w2 ⟨rfl, hs2, hc2⟩
    have G : Hid (Stp px pm mp S ⟨(putL (subL S.ls q) S.m k v).2.2, replL S.ls q (putL (subL S.ls q) S.m k v).2.1, S.held⟩ w w2) := Stp.of H.out q (putL_sh _ _ _ _) hs2 hc2
    clear hs2 hc2
    go_wp2
    go_ret
    rw [E.out]
    exact ⟨rfl, G.out⟩

set_option maxHeartbeats 1000000 in
set_option maxRecDepth 4000 in
theorem xsince_calls {w : World} {px pm mp : Nat} {S : RS} (h : ChainAt w px pm mp S) :
    Calls Try.prog 45 #[pt px] w fun x w' => x = .returned (.tuple #[.int .i64 (sinceR S).1, .int .i64 (sinceR S).2]) ∧ Chg [] w w' := by
  have c4 : w.cell? ⟨px, 4, none⟩ = some (atV S) := cell_of h.row rfl
  have c5 : w.cell? ⟨px, 5, none⟩ = some (logV S) := cell_of h.row rfl
  have c6 : w.cell? ⟨px, 6, none⟩ = some (thenV S) := cell_of h.row rfl
  have H : Hid (ChainAt w px pm mp S) := h
  cases hh : S.held with
  | none =>
    have e : sinceR S = (0, 8) := by rw [sinceR, hh]
    have e1 : atV S = .int .i64 (-1) := by rw [atV, hh]
    rw [e1] at c4
    rw [e]
    clear h hh e e1
    go_enter Try.func45, Try.ntmps45
    go_wp2
    go_ret2
    exact ⟨rfl, Chg.refl _ _⟩
  | some z =>
    obtain ⟨q, a, b⟩ := z
    have e1 : atV S = .int .i64 (q : Nat) := by rw [atV, hh]
    rw [e1] at c4
    have hd : decide (((q : Nat) : Int) < 0) = false := by simp
    cases hl : logOf (subL S.ls q) with
    | none =>
      have e2 : thenV S = .nilFunc := by rw [thenV, hh]; simp only [hl]
      have e : sinceR S = (0, 7) := by
        rw [sinceR, hh]
        cases hs : subL S.ls q with
        | nil => simp only [hs]
        | cons x r => cases x with
          | logged p l => rw [hs] at hl; cases hl
          | cached p c => simp only [hs]
          | limited p c => simp only [hs]
      rw [e2] at c6
      rw [e]
      clear h hh e e1 e2 hl
      go_enter Try.func45, Try.ntmps45
      go_wp2
      go_ret2
      exact ⟨rfl, Chg.refl _ _⟩
    | some p =>
      have e2 : thenV S = .func (.func 63) #[.agg #[.int .i64 a, .int .i64 b]] #[] := by rw [thenV, hh]; simp only [hl]
      have e3 : logV S = pt p := by rw [logV, hh]; simp only [hl]
      cases hs : subL S.ls q with
      | nil => rw [hs] at hl; cases hl
      | cons x r =>
        cases x with
        | cached p c => rw [hs] at hl; cases hl
        | limited p c => rw [hs] at hl; cases hl
        | logged p' l =>
          rw [hs] at hl
          cases hl
          have e : sinceR S = (wrap64 (wrap64 (l.puts + l.dels) - wrap64 (a + b)), 0) := by rw [sinceR, hh]; simp only [hs]
          have hst := h.st.subL q
          rw [hs] at hst
          have d1 : w.cell? ⟨p, 1, none⟩ = some (.int .i64 l.puts) := cell_of hst.2.1 rfl
          have d2 : w.cell? ⟨p, 2, none⟩ = some (.int .i64 l.dels) := cell_of hst.2.1 rfl
          rw [e2] at c6
          rw [e3] at c5
          rw [e]
          have HT : Hid (thenV S = .func (.func 63) #[.agg #[.int .i64 a, .int .i64 b]] #[]) := e2
          clear h hh e e1 e2 e3 hs hst
          go_enter Try.func45, Try.ntmps45
          go_wp2_with fail
          refine (tlen_calls _ _ _).mono ?_
          rintro x w1 ⟨rfl, hc1⟩
          have d6 : w1.cell? ⟨px, 6, none⟩ = some (.func (.func 63) #[.agg #[.int .i64 a, .int .i64 b]] #[]) := by
            rw [← HT.out]; exact cell_of (hc1.keep H.out.row (by simp)) rfl
          have HC1 : Hid (Chg [] w w1) := hc1
          clear hc1 c4 c5 c6 d1 d2
          go_wp2_with fail
          refine (tlen_calls _ _ _).mono ?_
          rintro x w2 ⟨rfl, hc2⟩
          have HC2 : Hid (Chg [] w w2) := HC1.out.trans hc2
          clear hc2
          go_wp2
          go_ret2
          exact ⟨rfl, HC2.out⟩
end Go.Proofs.Qxb6500371a.W
