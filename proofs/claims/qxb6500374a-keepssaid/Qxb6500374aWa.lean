import Derived.Test.Qxb6500374aKu
set_option linter.unusedVariables false
set_option linter.unusedSimpArgs false
namespace Go.Proofs.Qxb6500374a.W
open Go.RowKit Go.Maps

theorem baSelf (x : ByteArray) : (x == x) = true := by
  obtain ⟨d⟩ := x
  first
    | (show (d == d) = true; exact beq_self_eq_true d)
    | (simp [BEq.beq, instBEqByteArray.beq]; done)
theorem eqI (d : Nat) (x : Int) (w : World) : (Op.equalIn (d + 1) 3 (.int .i64 x) (.int .i64 x)).run Try.prog w = .ok true w := by
  simp [Op.equalIn, run_underlying Try.underlying3]
theorem eqE (d : Nat) (x : Int) (w : World) : (Op.equalIn (d + 1) 25 (.int .i64 x) (.int .i64 x)).run Try.prog w = .ok true w := by
  simp [Op.equalIn, run_underlying Try.underlying25]
theorem eqS (d : Nat) (x : ByteArray) (w : World) : (Op.equalIn (d + 1) 9 (.string x) (.string x)).run Try.prog w = .ok true w := by
  simp [Op.equalIn, run_underlying Try.underlying9, baSelf]
theorem part0 (e n m : Int) (s : ByteArray) (w : World) : (part 25 (ansCells e n m s) 0).run Try.prog w = .ok (.int .i64 e) w := by kernel_rfl
theorem part1 (e n m : Int) (s : ByteArray) (w : World) : (part 3 (ansCells e n m s) 1).run Try.prog w = .ok (.int .i64 n) w := by kernel_rfl
theorem part2 (e n m : Int) (s : ByteArray) (w : World) : (part 3 (ansCells e n m s) 2).run Try.prog w = .ok (.int .i64 m) w := by kernel_rfl
theorem part3 (e n m : Int) (s : ByteArray) (w : World) : (part 9 (ansCells e n m s) 3).run Try.prog w = .ok (.string s) w := by kernel_rfl
theorem eqA (d : Nat) (e n m : Int) (s : ByteArray) (w : World) : (Op.equalIn (d + 1 + 1) 65 (.agg (ansCells e n m s)) (.agg (ansCells e n m s))).run Try.prog w = .ok true w := by
  rw [Op.equalIn]
  simp [run_underlying Try.underlying65, part0, part1, part2, part3, eqI, eqE, eqS]
theorem neq_ans (e n m : Int) (s : ByteArray) (w : World) : (binOp .neq 65 (.agg (ansCells e n m s)) (.agg (ansCells e n m s))).run Try.prog w = .ok (.bool false) w := by
  have h : (Op.equalIn Op.maxDepth 65 (.agg (ansCells e n m s)) (.agg (ansCells e n m s))).run Try.prog w = .ok true w := eqA 9998 e n m s w
  simp only [binOp, Op.equal]
  rw [Sem.run_bind, h]
  rfl
theorem Chg.above {bs : List Nat} {w0 w w' : World} (h0 : Chg [] w0 w) (h : Chg bs w w') (hb : ∀ x ∈ bs, w0.heap.size ≤ x) : Chg [] w0 w' :=
  h0.andThen h (fun x hx => Or.inr (hb x hx))

/-- The desk's part of a pair. -/
structure DkAt (B N : Nat) (w : World) (px pa ph : Nat) (Bf Cf : Nat → Nat) (S : WS) : Prop where
  at_ : WAt w px pa ph Bf Cf S
  good : S.good N
  new : ∀ x ∈ wb px pa ph S.A Bf, B ≤ x

theorem WS.good.capOk {S : WS} {N : Nat} (h : S.good N) (hN : (N : Int) ≤ 4398046511104) (hp : ∀ j, j < 7 → 0 ≤ S.cn j) : capOk S := ⟨hp, fun j hj => by have := h.cap j hj; omega⟩

/-- The desk and the model, alike, in blocks from B on. -/
def Duo (B N : Nat) (w : World) (px pa ph pd pA pC : Nat) (S : WS) : Prop := ∃ Bf Cf lo hi, DkAt B N w px pa ph Bf Cf S ∧ MdAt w pd pA pC lo hi S ∧ (∀ x ∈ [pd, pA, pC], x ∉ wb px pa ph S.A Bf) ∧ (∀ x ∈ [pd, pA, pC], B ≤ x) ∧ lo ≤ S.rd ∧ S.rd ≤ hi

theorem Duo.quiet {B N : Nat} {w w' : World} {px pa ph pd pA pC : Nat} {S : WS} (h : Duo B N w px pa ph pd pA pC S) (hc : Chg [] w w') : Duo B N w' px pa ph pd pA pC S := by
  obtain ⟨Bf, Cf, lo, hi, h1, h2, h3⟩ := h
  exact ⟨Bf, Cf, lo, hi, ⟨h1.at_.chg h1.good.ok.aok hc (by simp), h1.good, h1.new⟩, h2.chg hc (by simp), h3⟩

/-- Between the desk's step and the model's. -/
def Mid (B N : Nat) (w : World) (px pa ph pd pA pC : Nat) (S : WS) (o : OpD) (r : Nat) : Prop := ∃ Bf Cf lo hi, DkAt B (N + 1) w px pa ph Bf Cf (stepD S o r) ∧ MdAt w pd pA pC lo hi S ∧ (∀ x ∈ [pd, pA, pC], x ∉ wb px pa ph (stepD S o r).A Bf) ∧ (∀ x ∈ [pd, pA, pC], B ≤ x) ∧ lo ≤ S.rd ∧ S.rd ≤ hi ∧ S.good N ∧ (∀ j, j < 7 → 0 ≤ S.cn j) ∧ ((o.kind = 3 ∨ o.kind = 4) → isN o.a = true → RB S.A o.a.toNat r)

theorem duo_do {B N : Nat} {w : World} {px pa ph pd pA pC : Nat} {S : WS} (h : Duo B N w px pa ph pd pA pC S) (hB : B ≤ w.heap.size) (hN : (N : Int) ≤ 4398046511104) (o : OpD) :
    Calls Try.prog 49 #[pt px, opV o] w fun x w' => x = .returned (ansV (ansD S o)) ∧ ∃ r, Mid B N w' px pa ph pd pA pC S o r ∧ ∃ bs, Chg bs w w' ∧ ∀ x ∈ bs, B ≤ x := by
  obtain ⟨Bf, Cf, lo, hi, h1, h2, h3, h4, h5, h6⟩ := h
  have hp := h1.at_.pos
  have hcap := h1.good.capOk hN hp
  refine (do_calls h1.at_ h1.good.ok hcap.2 o).mono ?_
  rintro x w' ⟨r, hrb, rfl, ⟨Bf', Cf', e1, e2⟩, e3⟩
  have hlt := h2.lt
  refine ⟨rfl, r, ⟨Bf', Cf', lo, hi, ⟨e1, stepD_good h1.good hp o r, ?_⟩, h2.chg e3 h3, ?_, h4, h5, h6, h1.good, hp, hrb⟩, _, e3, h1.new⟩
  · intro x hx
    rcases e2 x hx with e | e
    · exact h1.new x e
    · omega
  · intro x hx hm
    rcases e2 x hm with e | e
    · exact h3 x hx e
    · have := hlt x hx; omega

theorem stepD_rd (S : WS) (o : OpD) (r : Nat) : (stepD S o r).rd = if (o.kind = 3 ∨ o.kind = 4) ∧ isN o.a = true then (r : Int) else S.rd := by
  by_cases h3 : o.kind = 3
  · have e : stepD S o r = (reachS S o.a r).2.2.2 := by simp [stepD, h3]
    rw [e]
    unfold reachS
    by_cases hn : isN o.a = true
    · rw [if_pos hn, if_pos ⟨Or.inl h3, hn⟩]
    · rw [if_neg hn, if_neg (fun hx => hn hx.2)]
  by_cases h4 : o.kind = 4
  · have e : stepD S o r = (twinsS S o.a r).2.2.2.2 := by simp [stepD, h4]
    rw [e]
    unfold twinsS
    by_cases hn : isN o.a = true
    · rw [if_pos hn, if_pos ⟨Or.inr h4, hn⟩]
    · rw [if_neg hn, if_neg (fun hx => hn hx.2)]
  have e : (if (o.kind = 3 ∨ o.kind = 4) ∧ isN o.a = true then (r : Int) else S.rd) = S.rd := if_neg (fun hx => by rcases hx.1 with e | e; exact h3 e; exact h4 e)
  rw [e]
  unfold stepD
  rw [if_neg h3, if_neg h4]
  split
  · unfold linkS; repeat' split
    all_goals rfl
  split
  · unfold cutS; repeat' split
    all_goals rfl
  split
  · unfold noteS; repeat' split
    all_goals rfl
  split
  · unfold dropS; repeat' split
    all_goals rfl
  split
  · rfl
  split
  · rfl
  · rfl
theorem stepD_like (S : WS) (o : OpD) (r : Nat) : (stepD S o r).A = (stepD S o 0).A ∧ (stepD S o r).cn = (stepD S o 0).cn ∧ (stepD S o r).nn = (stepD S o 0).nn := by
  unfold stepD
  repeat' split
  all_goals first | exact ⟨rfl, rfl, rfl⟩ | skip
  · obtain ⟨a1, a2, a3⟩ := reachS_like S o.a r
    obtain ⟨b1, b2, b3⟩ := reachS_like S o.a 0
    exact ⟨by rw [a1, b1], by rw [a2, b2], by rw [a3, b3]⟩
  · obtain ⟨a1, a2, a3⟩ := twinsS_like S o.a r
    obtain ⟨b1, b2, b3⟩ := twinsS_like S o.a 0
    exact ⟨by rw [a1, b1], by rw [a2, b2], by rw [a3, b3]⟩

theorem duo_dom {B N : Nat} {w : World} {px pa ph pd pA pC : Nat} {S : WS} {o : OpD} {r : Nat} (h : Mid B N w px pa ph pd pA pC S o r) (hB : B ≤ w.heap.size) (hN : (N : Int) ≤ 4398046511104) (ob : Obj) :
    Calls Try.prog 59 #[pt pd, opV o] (w.alloc ob) fun x w' => x = .returned (ansV (ansD S o)) ∧ Duo B (N + 1) w' px pa ph pd pA pC (stepD S o r) ∧ ∃ bs, Chg bs (w.alloc ob) w' ∧ ∀ x ∈ bs, B ≤ x ∧ x < w.heap.size := by
  obtain ⟨Bf, Cf, lo, hi, h1, h2, h3, h4, h5, h6, h7, h8, h9⟩ := h
  have hlt := h2.lt
  have ha : Chg [] w (w.alloc ob) := (Chg.refl _ _).alloc _
  refine (dom_calls (h2.chg ha (by simp)) h7.ok (h7.capOk hN h8) o).mono ?_
  rintro x w' ⟨rfl, e1, e2⟩
  have hA := h1.good.ok.aok
  obtain ⟨l1, l2, l3⟩ := stepD_like S o r
  refine ⟨rfl, ⟨Bf, Cf, _, _, ⟨(h1.at_.chg hA ha (by simp)).chg hA e2 (fun x hx hm => h3 x hm hx), h1.good, h1.new⟩, e1.like l1 l2 l3, h3, h4, ?_⟩, [pd, pA, pC], e2, fun x hx => ⟨h4 x hx, hlt x hx⟩⟩
  rw [stepD_rd]
  unfold loD hiD
  by_cases hk : o.kind = 3 ∨ o.kind = 4
  · rw [if_pos hk, if_pos hk]
    unfold loR hiR
    by_cases hn : isN o.a = true
    · rw [if_pos hn, if_pos hn, if_pos ⟨hk, hn⟩]
      obtain ⟨k, hk8, e⟩ := isN_iff.1 hn
      have := h9 hk hn
      rw [e] at this ⊢
      exact this.span h7.ok.aok hk8
    · rw [if_neg hn, if_neg hn, if_neg (fun hx => hn hx.2)]
      exact ⟨h5, h6⟩
  · rw [if_neg hk, if_neg hk, if_neg (fun hx => hk hx.1)]
    exact ⟨h5, h6⟩

theorem duo_show {B N : Nat} {w : World} {px pa ph pd pA pC : Nat} {S : WS} (h : Duo B N w px pa ph pd pA pC S) (hN : (N : Int) ≤ 4398046511104) : Calls Try.prog 33 #[pt px] w fun x w' => x = .returned (.string (showS S)) ∧ Chg [] w w' := by
  obtain ⟨Bf, Cf, lo, hi, h1, h2, _⟩ := h
  exact show_calls h1.at_ h1.good.ok (h1.good.capOk hN h1.at_.pos).2
theorem duo_mshow {B N : Nat} {w : World} {px pa ph pd pA pC : Nat} {S : WS} (h : Duo B N w px pa ph pd pA pC S) (hN : (N : Int) ≤ 4398046511104) : Calls Try.prog 60 #[pt pd] w fun x w' => x = .returned (.string (showS S)) ∧ Chg [] w w' := by
  obtain ⟨Bf, Cf, lo, hi, h1, h2, _⟩ := h
  exact mshow_calls h2 h1.good.ok h1.at_.pos (h1.good.capOk hN h1.at_.pos).2
theorem duo_check {B N : Nat} {w : World} {px pa ph pd pA pC : Nat} {S : WS} (h : Duo B N w px pa ph pd pA pC S) : Calls Try.prog 25 #[pt px] w fun x w' => x = .returned (.bool true) ∧ Chg [] w w' := by
  obtain ⟨Bf, Cf, lo, hi, h1, h2, _⟩ := h
  exact wcheck_calls h1.at_ h1.good.ok
theorem duo_rounds {B N : Nat} {w : World} {px pa ph pd pA pC : Nat} {S : WS} (h : Duo B N w px pa ph pd pA pC S) : Calls Try.prog 24 #[pt px] w fun x w' => x = .returned (.int .i64 S.rd) ∧ w' = w := by
  obtain ⟨Bf, Cf, lo, hi, h1, h2, _⟩ := h
  exact rounds_calls h1.at_
def SpanP (S : WS) (w : World) (x : Ending) (w' : World) : Prop := ∃ lo hi, x = .returned (.tuple #[.int .i64 lo, .int .i64 hi]) ∧ lo ≤ S.rd ∧ S.rd ≤ hi ∧ Chg [] w w'
theorem duo_span {B N : Nat} {w : World} {px pa ph pd pA pC : Nat} {S : WS} (h : Duo B N w px pa ph pd pA pC S) : Calls Try.prog 61 #[pt pd] w (SpanP S w) := by
  obtain ⟨Bf, Cf, lo, hi, h1, h2, h3, h4, h5, h6⟩ := h
  refine (mspan_calls h2).mono ?_
  rintro x w' ⟨rfl, hc⟩
  exact ⟨lo, hi, rfl, h5, h6, hc⟩

theorem sNew_good : sNew.good 0 := ⟨sNew_ok, fun j _ => by simp [sNew]⟩

set_option maxHeartbeats 8000000 in
set_option maxRecDepth 4000 in
theorem walk_loud {w : World} {ap : Option Addr} {len cap : Nat} {f : Nat → OpD} (hs : ScriptAt w ap len f) (hl : len ≤ maxLen) :
    Calls Try.prog 53 #[.slice ap len cap, .bool false] w fun x w' => (∃ n, x = .returned (.tuple #[.int .i64 (-1), .int .i64 n])) ∧ Chg [] w w' := by
  have HS : Hid (ScriptAt w ap len f) := hs
  have hlm : len ≤ 9223372036854775807 := by have : maxLen ≤ 9223372036854775807 := by decide
                                             omega
  clear hs hl
  go_enter Try.func53, Try.ntmps53
  go_wp2_with fail
  refine (new_calls w).mono ?_
  rintro x w1 ⟨px, pa, ph, Bf, Cf, rfl, hat, hc1, hnew⟩
  have HAT : Hid (WAt w1 px pa ph Bf Cf sNew) := hat
  have HC1 : Hid (Chg [] w w1) := hc1
  have HNW : Hid (∀ b ∈ wb px pa ph sNew.A Bf, w.heap.size ≤ b) := hnew
  clear hat hc1 hnew
  go_wp2_with fail
  refine (mnew_calls w1).mono ?_
  rintro x w2 ⟨pd, pA, pC, rfl, hm2, hc2, hn2⟩
  have HP : Hid (Duo w.heap.size 0 w2 px pa ph pd pA pC sNew) := by
    have hlt := HAT.out.lt sNew_ok.aok
    have hsz := HC1.out.size
    refine ⟨Bf, Cf, 0, 0, ⟨HAT.out.chg sNew_ok.aok hc2 (by simp), sNew_good, HNW.out⟩, hm2, ?_, ?_, Int.le_refl _, Int.le_refl _⟩
    · intro x hx hm
      have := hlt _ hm
      have := hn2 x hx
      omega
    · intro x hx
      have := hn2 x hx
      omega
  have HC2 : Hid (Chg [] w w2) := HC1.out.trans hc2
  clear hm2 hc2 hn2 HAT HNW HC1
  go_wp2_with fail
  go_loopw [8, 9] (fun v8 v9 wr => ∃ (i : Nat) (S : WS), i ≤ len ∧ (i : Int) ≤ 4398046511104 ∧ v8 = .int .i64 i ∧ v9 = .int .i64 i ∧ Duo w.heap.size i wr px pa ph pd pA pC S ∧ Chg [] w wr) (fun _ v9 _ => ((len : Int) - intOf v9).toNat)
  case atStart => exact ⟨0, sNew, by omega, by decide, rfl, rfl, HP.out, HC2.out⟩
  case round =>
    clear HP HC2
    obtain ⟨i, S, hi, hi42, rfl, rfl, hp, hc⟩ := hrel
    rename World => wI
    have HPi : Hid (Duo w.heap.size i wI px pa ph pd pA pC S) := hp
    have HCi : Hid (Chg [] w wI) := hc
    clear hp hc
    by_cases hil : i < len
    · by_cases him : (i : Int) < 4398046511104
      · rcases HS.out with h0 | ⟨b, off, rfl, hb, hcell⟩
        · omega
        · obtain ⟨k0, k1, k2, k3, k4, k5⟩ := hcell i hil
          have KS : Hid (w.cell? ⟨b, off + i * 6, none⟩ = some (.int .i64 (f i).kind) ∧ w.cell? ⟨b, off + i * 6 + 1, none⟩ = some (.int .i64 (f i).a) ∧ w.cell? ⟨b, off + i * 6 + 2, none⟩ = some (.int .i64 (f i).b) ∧
            w.cell? ⟨b, off + i * 6 + 3, none⟩ = some (.int .i64 (f i).c) ∧ w.cell? ⟨b, off + i * 6 + 4, none⟩ = some (.string (f i).s) ∧ w.cell? ⟨b, off + i * 6 + 5, none⟩ = some (.string (f i).t)) := ⟨k0, k1, k2, k3, k4, k5⟩
          have hsame := HCi.out.block b hb (by simp)
          rw [← cell_same hsame] at k0 k1 k2 k3 k4 k5
          have HB : Hid (b < w.heap.size) := hb
          have d1 : decide (i < len) = true := by simpa using hil
          have d2 : decide ((i : Int) < 4398046511104) = true := decide_eq_true him
          have HIM : Hid ((i : Int) < 4398046511104) := him
          have HI1 : Hid (((i + 1 : Nat) : Int) ≤ 4398046511104) := by show _ ≤ _; omega
          clear hcell hsame hb
          go_wp2_with fail
          refine (duo_do HPi.out HCi.out.size (by have := HIM.out; omega) (f i)).mono ?_
          rintro x w3 ⟨rfl, r, hp3, bs3, hc3, hbs3⟩
          generalize hr : ansD S (f i) = rr
          have HR : Hid (ansD S (f i) = rr) := hr
          clear hr
          rw [ansV]
          have HP3 : Hid (Mid w.heap.size i w3 px pa ph pd pA pC S (f i) r) := hp3
          have HC3 : Hid (Chg [] w w3) := Chg.above HCi.out hc3 hbs3
          have hsame := HC3.out.block b HB.out (by simp)
          obtain ⟨j0, j1, j2, j3, j4, j5⟩ := KS.out
          rw [← cell_same hsame] at j0 j1 j2 j3 j4 j5
          have hb3 : b < w3.heap.size := Nat.lt_of_lt_of_le HB.out HC3.out.size
          clear hp3 hc3 hbs3 k0 k1 k2 k3 k4 k5 hsame
          go_wp2_with fail
          refine (duo_dom HP3.out HC3.out.size (by have := HIM.out; omega) (.cells (ansCells rr.e rr.n rr.m rr.s) 65)).mono ?_
          rintro x w4 ⟨rfl, hp4, bs, hc4, hbs⟩
          rw [HR.out, ansV]
          have HP4 : Hid (Duo w.heap.size (i + 1) w4 px pa ph pd pA pC (stepD S (f i) r)) := hp4
          have HC4 : Hid (Chg [] w w4) := Chg.above (HC3.out.alloc _) hc4 (fun x hx => (hbs x hx).1)
          have HA4 : Hid (w4.heap[w3.heap.size]? = some (.cells (ansCells rr.e rr.n rr.m rr.s) 65 (0, 0))) := hc4.keep (heap_alloc_new _ _) (fun hx => by have := (hbs _ hx).2; omega)
          have hsz3 : w3.heap.size < w4.heap.size := (Array.getElem?_eq_some_iff.1 HA4.out).1
          have x0 : w4.cell? ⟨w3.heap.size, 0, none⟩ = some (.int .i64 rr.e) := cell_of HA4.out rfl
          have x1 : w4.cell? ⟨w3.heap.size, 1, none⟩ = some (.int .i64 rr.n) := cell_of HA4.out rfl
          have x2 : w4.cell? ⟨w3.heap.size, 2, none⟩ = some (.int .i64 rr.m) := cell_of HA4.out rfl
          have x3 : w4.cell? ⟨w3.heap.size, 3, none⟩ = some (.string rr.s) := cell_of HA4.out rfl
          have hnq := neq_ans rr.e rr.n rr.m rr.s (w4.alloc (.cells (ansCells rr.e rr.n rr.m rr.s) 65))
          have hbq := baSelf rr.s
          clear hp4 hc4 hbs j0 j1 j2 j3 j4 j5 hb3
          go_wp2_with fail
          have hq0 : Chg [] w4 (w4.alloc (.cells (ansCells rr.e rr.n rr.m rr.s) 65)) := (Chg.refl _ _).alloc _
          refine (duo_show (HP4.out.quiet hq0) HI1.out).mono ?_
          rintro x w5 ⟨rfl, hc5⟩
          have HP5 : Hid (Duo w.heap.size (i + 1) w5 px pa ph pd pA pC (stepD S (f i) r)) := (HP4.out.quiet hq0).quiet hc5
          have HC5 : Hid (Chg [] w w5) := (HC4.out.trans hq0).trans hc5
          clear hc5 x0 x1 x2 x3 hnq hbq hq0 HP3 HC3 HA4 HR KS hsz3
          go_wp2_with fail
          refine (duo_mshow HP5.out HI1.out).mono ?_
          rintro x w6 ⟨rfl, hc6⟩
          have HP6 : Hid (Duo w.heap.size (i + 1) w6 px pa ph pd pA pC (stepD S (f i) r)) := HP5.out.quiet hc6
          have HC6 : Hid (Chg [] w w6) := HC5.out.trans hc6
          clear hc6 HP5 HC5 HP4 HC4
          have hsq := baSelf (showS (stepD S (f i) r))
          generalize showS (stepD S (f i) r) = sq at *
          go_wp2_with fail
          refine (duo_check HP6.out).mono ?_
          rintro x w7 ⟨rfl, hc7⟩
          have HP7 : Hid (Duo w.heap.size (i + 1) w7 px pa ph pd pA pC (stepD S (f i) r)) := HP6.out.quiet hc7
          have HC7 : Hid (Chg [] w w7) := HC6.out.trans hc7
          clear hc7 HP6 HC6 hsq
          go_wp2_with fail
          refine (duo_rounds HP7.out).mono ?_
          rintro x w8 ⟨rfl, hw8⟩
          obtain rfl : w7 = w8 := hw8.symm
          clear hw8
          go_wp2_with fail
          refine (duo_span HP7.out).mono ?_
          rintro x w9 ⟨lo, hi', rfl, hlo, hhi, hc9⟩
          have HP9 : Hid (Duo w.heap.size (i + 1) w9 px pa ph pd pA pC (stepD S (f i) r)) := HP7.out.quiet hc9
          have HC9 : Hid (Chg [] w w9) := HC7.out.trans hc9
          have hd1 : decide ((stepD S (f i) r).rd < lo) = false := by simp; omega
          have hd2 : decide (hi' < (stepD S (f i) r).rd) = false := by simp; omega
          clear hc9 HP7 HC7
          generalize (stepD S (f i) r).rd = rd at *
          go_wp2
          exact ⟨⟨i + 1, stepD S (f i) r, by omega, HI1.out, by simp, by simp, HP9.out, HC9.out⟩, by simp [intOf]; omega⟩
      · have d1 : decide (i < len) = true := by simpa using hil
        have d2 : decide ((i : Int) < 4398046511104) = false := decide_eq_false him
        go_wp2
        go_ret2
        exact ⟨⟨_, rfl⟩, HCi.out⟩
    · have d1 : decide (i < len) = false := by simpa using hil
      go_wp2
      go_ret2
      exact ⟨⟨_, rfl⟩, HCi.out⟩

set_option maxHeartbeats 8000000 in
set_option maxRecDepth 4000 in
theorem walk_quiet {w : World} {ap : Option Addr} {len cap : Nat} {f : Nat → OpD} (hs : ScriptAt w ap len f) (hl : len ≤ maxLen) :
    Calls Try.prog 53 #[.slice ap len cap, .bool true] w fun x w' => (∃ n, x = .returned (.tuple #[.int .i64 (-1), .int .i64 n])) ∧ Chg [] w w' := by
  have HS : Hid (ScriptAt w ap len f) := hs
  have hlm : len ≤ 9223372036854775807 := by have : maxLen ≤ 9223372036854775807 := by decide
                                             omega
  clear hs hl
  go_enter Try.func53, Try.ntmps53
  go_wp2_with fail
  refine (new_calls w).mono ?_
  rintro x w1 ⟨px, pa, ph, Bf, Cf, rfl, hat, hc1, hnew⟩
  have HAT : Hid (WAt w1 px pa ph Bf Cf sNew) := hat
  have HC1 : Hid (Chg [] w w1) := hc1
  have HNW : Hid (∀ b ∈ wb px pa ph sNew.A Bf, w.heap.size ≤ b) := hnew
  clear hat hc1 hnew
  go_wp2_with fail
  refine (mnew_calls w1).mono ?_
  rintro x w2 ⟨pd, pA, pC, rfl, hm2, hc2, hn2⟩
  have HP : Hid (Duo w.heap.size 0 w2 px pa ph pd pA pC sNew) := by
    have hlt := HAT.out.lt sNew_ok.aok
    have hsz := HC1.out.size
    refine ⟨Bf, Cf, 0, 0, ⟨HAT.out.chg sNew_ok.aok hc2 (by simp), sNew_good, HNW.out⟩, hm2, ?_, ?_, Int.le_refl _, Int.le_refl _⟩
    · intro x hx hm
      have := hlt _ hm
      have := hn2 x hx
      omega
    · intro x hx
      have := hn2 x hx
      omega
  have HC2 : Hid (Chg [] w w2) := HC1.out.trans hc2
  clear hm2 hc2 hn2 HAT HNW HC1
  go_wp2_with fail
  go_loopw [8, 9] (fun v8 v9 wr => ∃ (i : Nat) (S : WS), i ≤ len ∧ (i : Int) ≤ 4398046511104 ∧ v8 = .int .i64 i ∧ v9 = .int .i64 i ∧ Duo w.heap.size i wr px pa ph pd pA pC S ∧ Chg [] w wr) (fun _ v9 _ => ((len : Int) - intOf v9).toNat)
  case atStart => exact ⟨0, sNew, by omega, by decide, rfl, rfl, HP.out, HC2.out⟩
  case round =>
    clear HP HC2
    obtain ⟨i, S, hi, hi42, rfl, rfl, hp, hc⟩ := hrel
    rename World => wI
    have HPi : Hid (Duo w.heap.size i wI px pa ph pd pA pC S) := hp
    have HCi : Hid (Chg [] w wI) := hc
    clear hp hc
    by_cases hil : i < len
    · by_cases him : (i : Int) < 4398046511104
      · rcases HS.out with h0 | ⟨b, off, rfl, hb, hcell⟩
        · omega
        · obtain ⟨k0, k1, k2, k3, k4, k5⟩ := hcell i hil
          have KS : Hid (w.cell? ⟨b, off + i * 6, none⟩ = some (.int .i64 (f i).kind) ∧ w.cell? ⟨b, off + i * 6 + 1, none⟩ = some (.int .i64 (f i).a) ∧ w.cell? ⟨b, off + i * 6 + 2, none⟩ = some (.int .i64 (f i).b) ∧
            w.cell? ⟨b, off + i * 6 + 3, none⟩ = some (.int .i64 (f i).c) ∧ w.cell? ⟨b, off + i * 6 + 4, none⟩ = some (.string (f i).s) ∧ w.cell? ⟨b, off + i * 6 + 5, none⟩ = some (.string (f i).t)) := ⟨k0, k1, k2, k3, k4, k5⟩
          have hsame := HCi.out.block b hb (by simp)
          rw [← cell_same hsame] at k0 k1 k2 k3 k4 k5
          have HB : Hid (b < w.heap.size) := hb
          have d1 : decide (i < len) = true := by simpa using hil
          have d2 : decide ((i : Int) < 4398046511104) = true := decide_eq_true him
          have HIM : Hid ((i : Int) < 4398046511104) := him
          have HI1 : Hid (((i + 1 : Nat) : Int) ≤ 4398046511104) := by show _ ≤ _; omega
          clear hcell hsame hb
          go_wp2_with fail
          refine (duo_do HPi.out HCi.out.size (by have := HIM.out; omega) (f i)).mono ?_
          rintro x w3 ⟨rfl, r, hp3, bs3, hc3, hbs3⟩
          generalize hr : ansD S (f i) = rr
          have HR : Hid (ansD S (f i) = rr) := hr
          clear hr
          rw [ansV]
          have HP3 : Hid (Mid w.heap.size i w3 px pa ph pd pA pC S (f i) r) := hp3
          have HC3 : Hid (Chg [] w w3) := Chg.above HCi.out hc3 hbs3
          have hsame := HC3.out.block b HB.out (by simp)
          obtain ⟨j0, j1, j2, j3, j4, j5⟩ := KS.out
          rw [← cell_same hsame] at j0 j1 j2 j3 j4 j5
          have hb3 : b < w3.heap.size := Nat.lt_of_lt_of_le HB.out HC3.out.size
          clear hp3 hc3 hbs3 k0 k1 k2 k3 k4 k5 hsame
          go_wp2_with fail
          refine (duo_dom HP3.out HC3.out.size (by have := HIM.out; omega) (.cells (ansCells rr.e rr.n rr.m rr.s) 65)).mono ?_
          rintro x w4 ⟨rfl, hp4, bs, hc4, hbs⟩
          rw [HR.out, ansV]
          have HP4 : Hid (Duo w.heap.size (i + 1) w4 px pa ph pd pA pC (stepD S (f i) r)) := hp4
          have HC4 : Hid (Chg [] w w4) := Chg.above (HC3.out.alloc _) hc4 (fun x hx => (hbs x hx).1)
          have HA4 : Hid (w4.heap[w3.heap.size]? = some (.cells (ansCells rr.e rr.n rr.m rr.s) 65 (0, 0))) := hc4.keep (heap_alloc_new _ _) (fun hx => by have := (hbs _ hx).2; omega)
          have hsz3 : w3.heap.size < w4.heap.size := (Array.getElem?_eq_some_iff.1 HA4.out).1
          have x0 : w4.cell? ⟨w3.heap.size, 0, none⟩ = some (.int .i64 rr.e) := cell_of HA4.out rfl
          have x1 : w4.cell? ⟨w3.heap.size, 1, none⟩ = some (.int .i64 rr.n) := cell_of HA4.out rfl
          have x2 : w4.cell? ⟨w3.heap.size, 2, none⟩ = some (.int .i64 rr.m) := cell_of HA4.out rfl
          have x3 : w4.cell? ⟨w3.heap.size, 3, none⟩ = some (.string rr.s) := cell_of HA4.out rfl
          have hnq := neq_ans rr.e rr.n rr.m rr.s (w4.alloc (.cells (ansCells rr.e rr.n rr.m rr.s) 65))
          have hbq := baSelf rr.s
          clear hp4 hc4 hbs j0 j1 j2 j3 j4 j5 hb3
          go_wp2
          exact ⟨⟨i + 1, stepD S (f i) r, by omega, HI1.out, by simp, by simp, HP4.out.quiet ((Chg.refl [] w4).alloc _), HC4.out.alloc _⟩, by simp [intOf]; omega⟩
      · have d1 : decide (i < len) = true := by simpa using hil
        have d2 : decide ((i : Int) < 4398046511104) = false := decide_eq_false him
        go_wp2
        go_ret2
        exact ⟨⟨_, rfl⟩, HCi.out⟩
    · have d1 : decide (i < len) = false := by simpa using hil
      go_wp2
      go_ret2
      exact ⟨⟨_, rfl⟩, HCi.out⟩

set_option maxRecDepth 4000 in
theorem refinesUp_calls {w : World} {ap : Option Addr} {len cap : Nat} {f : Nat → OpD} (hs : ScriptAt w ap len f) (hl : len ≤ maxLen) :
    Calls Try.prog 37 #[.slice ap len cap] w fun x w' => x = .returned (.int .i64 (-1)) ∧ Chg [] w w' := by
  have HS : Hid (ScriptAt w ap len f ∧ len ≤ maxLen) := ⟨hs, hl⟩
  clear hs hl
  go_enter Try.func37, Try.ntmps37
  go_wp2_with fail
  refine (walk_loud HS.out.1 HS.out.2).mono ?_
  rintro x w2 ⟨⟨n, rfl⟩, hc2⟩
  have HC2 : Hid (Chg [] w w2) := hc2
  clear hc2
  go_wp2
  go_ret
  exact ⟨rfl, HC2.out⟩

set_option maxRecDepth 4000 in
theorem refines_calls {w : World} {ap : Option Addr} {len cap : Nat} {f : Nat → OpD} (hs : ScriptAt w ap len f) (hl : len ≤ maxLen) :
    Calls Try.prog 19 #[.slice ap len cap] w fun x w' => x = .returned (.bool true) ∧ Chg [] w w' := by
  have HS : Hid (ScriptAt w ap len f ∧ len ≤ maxLen) := ⟨hs, hl⟩
  clear hs hl
  go_enter Try.func19, Try.ntmps19
  go_wp2_with fail
  refine (refinesUp_calls HS.out.1 HS.out.2).mono ?_
  rintro x w2 ⟨rfl, hc2⟩
  have HC2 : Hid (Chg [] w w2) := hc2
  clear hc2
  go_wp2
  go_ret
  exact ⟨rfl, HC2.out⟩

set_option maxRecDepth 4000 in
theorem quietUp_calls {w : World} {ap : Option Addr} {len cap : Nat} {f : Nat → OpD} (hs : ScriptAt w ap len f) (hl : len ≤ maxLen) :
    Calls Try.prog 38 #[.slice ap len cap] w fun x w' => x = .returned (.int .i64 (-1)) ∧ Chg [] w w' := by
  have HS : Hid (ScriptAt w ap len f ∧ len ≤ maxLen) := ⟨hs, hl⟩
  clear hs hl
  go_enter Try.func38, Try.ntmps38
  go_wp2_with fail
  refine (walk_quiet HS.out.1 HS.out.2).mono ?_
  rintro x w2 ⟨⟨n, rfl⟩, hc2⟩
  have HC2 : Hid (Chg [] w w2) := hc2
  clear hc2
  go_wp2
  go_ret
  exact ⟨rfl, HC2.out⟩

set_option maxRecDepth 4000 in
theorem refinesQuiet_calls {w : World} {ap : Option Addr} {len cap : Nat} {f : Nat → OpD} (hs : ScriptAt w ap len f) (hl : len ≤ maxLen) :
    Calls Try.prog 20 #[.slice ap len cap] w fun x w' => x = .returned (.bool true) ∧ Chg [] w w' := by
  have HS : Hid (ScriptAt w ap len f ∧ len ≤ maxLen) := ⟨hs, hl⟩
  clear hs hl
  go_enter Try.func20, Try.ntmps20
  go_wp2_with fail
  refine (quietUp_calls HS.out.1 HS.out.2).mono ?_
  rintro x w2 ⟨rfl, hc2⟩
  have HC2 : Hid (Chg [] w w2) := hc2
  clear hc2
  go_wp2
  go_ret
  exact ⟨rfl, HC2.out⟩
end Go.Proofs.Qxb6500374a.W
