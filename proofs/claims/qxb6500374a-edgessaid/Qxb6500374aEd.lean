import Derived.Test.Qxb6500374aCk
set_option linter.unusedVariables false
set_option linter.unusedSimpArgs false
namespace Go.Proofs.Qxb6500374a.W
open Go.RowKit Go.Maps

/-- A desk that a call has made. -/
def WC (w0 w : World) (px : Nat) (S : WS) : Prop := S.ok ∧ Chg [] w0 w ∧ ∃ pa ph B C, WAt w px pa ph B C S ∧ ∀ x ∈ wb px pa ph S.A B, w0.heap.size ≤ x

theorem WC.step {w0 w w' : World} {px pa ph : Nat} {B C : Nat → Nat} {S S' : WS} (hc : Chg [] w0 w) (hb : ∀ x ∈ wb px pa ph S.A B, w0.heap.size ≤ x) (h : WStp px pa ph B C S S' w w') (ho : S'.ok) : WC w0 w' px S' := by
  obtain ⟨B', C', h1, h2⟩ := h.ex
  refine ⟨ho, hc.andThen h.chg (fun x hx => Or.inr (hb x hx)), pa, ph, B', C', h1, fun x hx => ?_⟩
  rcases h2 x hx with e | e
  · exact hb x e
  · exact Nat.le_trans hc.size e

def NewC (w0 : World) (x : Ending) (w' : World) : Prop := ∃ px, x = .returned (pt px) ∧ WC w0 w' px sNew

theorem wc_new {w0 w : World} (hc : Chg [] w0 w) : Calls Try.prog 21 #[] w (NewC w0) := by
  refine (new_calls w).mono ?_
  rintro x w' ⟨px, pa, ph, B, C, rfl, h1, h2, h3⟩
  exact ⟨px, rfl, sNew_ok, hc.trans h2, pa, ph, B, C, h1, fun x hx => Nat.le_trans hc.size (h3 x hx)⟩

theorem wc_link {w0 w : World} {px : Nat} {S : WS} (h : WC w0 w px S) (a b : Int) : Calls Try.prog 22 #[pt px, .int .i64 a, .int .i64 b] w fun x w' => x = .returned (.int .i64 (linkS S a b).1) ∧ WC w0 w' px (linkS S a b).2 := by
  obtain ⟨ho, hc, pa, ph, B, C, h1, h2⟩ := h
  refine (link_calls h1 ho a b).mono ?_
  rintro x w' ⟨rfl, hs⟩
  exact ⟨rfl, WC.step hc h2 hs (linkS_ok ho a b)⟩

def ReachC (w0 : World) (px : Nat) (S : WS) (s : Nat) (x : Ending) (w' : World) : Prop := ∃ r : Nat, RB S.A s r ∧ x = .returned (.tuple #[.int .i64 (rlist S.A s).length, .string (joinS (rlist S.A s)), .int .i64 0]) ∧ WC w0 w' px { S with rd := r }

theorem ok_rd {S : WS} (h : S.ok) (r : Int) : WS.ok { S with rd := r } := ⟨h.aok, h.small⟩

theorem wc_reach {w0 w : World} {px : Nat} {S : WS} (h : WC w0 w px S) {s : Nat} (hs : s < 8) : Calls Try.prog 23 #[pt px, .int .i64 s] w (ReachC w0 px S s) := by
  obtain ⟨ho, hc, pa, ph, B, C, h1, h2⟩ := h
  have hn : isN (s : Int) = true := isN_iff.2 ⟨s, hs, rfl⟩
  refine (xreach_calls h1 ho s).mono ?_
  rintro x w' ⟨r, hr, rfl, hst⟩
  refine ⟨r, by simpa using hr hn, by simp [reachS, hn], ?_⟩
  have e : (reachS S s r).2.2.2 = { S with rd := r } := by simp [reachS, hn]
  rw [e] at hst
  exact WC.step hc h2 hst (ok_rd ho _)

def TwinsC (w0 : World) (px : Nat) (S : WS) (s : Nat) (x : Ending) (w' : World) : Prop := ∃ r : Nat, RB S.A s r ∧ x = .returned (.tuple #[.int .i64 (plist S.A s).length, .int .i64 (plist S.A s).length, .string (joinS (plist S.A s)), .int .i64 0]) ∧ WC w0 w' px { S with rd := r }

theorem wc_twins {w0 w : World} {px : Nat} {S : WS} (h : WC w0 w px S) {s : Nat} (hs : s < 8) : Calls Try.prog 27 #[pt px, .int .i64 s] w (TwinsC w0 px S s) := by
  obtain ⟨ho, hc, pa, ph, B, C, h1, h2⟩ := h
  have hn : isN (s : Int) = true := isN_iff.2 ⟨s, hs, rfl⟩
  refine (xtwins_calls h1 ho s).mono ?_
  rintro x w' ⟨r, hr, rfl, hst⟩
  refine ⟨r, by simpa using hr hn, by simp [twinsS, hn], ?_⟩
  have e : (twinsS S s r).2.2.2.2 = { S with rd := r } := by simp [twinsS, hn]
  rw [e] at hst
  exact WC.step hc h2 hst (ok_rd ho _)

theorem wc_rounds {w0 w : World} {px : Nat} {S : WS} (h : WC w0 w px S) : Calls Try.prog 24 #[pt px] w fun x w' => x = .returned (.int .i64 S.rd) ∧ WC w0 w' px S := by
  obtain ⟨ho, hc, pa, ph, B, C, h1, h2⟩ := h
  refine (rounds_calls h1).mono ?_
  rintro x w' ⟨rfl, rfl⟩
  exact ⟨rfl, ho, hc, pa, ph, B, C, h1, h2⟩

theorem wc_check {w0 w : World} {px : Nat} {S : WS} (h : WC w0 w px S) : Calls Try.prog 25 #[pt px] w fun x w' => x = .returned (.bool true) ∧ WC w0 w' px S := by
  obtain ⟨ho, hc, pa, ph, B, C, h1, h2⟩ := h
  refine (wcheck_calls h1 ho).mono ?_
  rintro x w' ⟨rfl, hch⟩
  exact ⟨rfl, WC.step hc h2 (WStp.same h1 ho.aok hch) ho⟩

/-- One step of the search on a list. -/
def stepL (A : Nat → List Nat) (L : List Nat) : List Nat := (List.range 8).filter fun k => L.contains k || L.any fun j => (A j).contains k

theorem stepL_ball {A : Nat → List Nat} (hA : AOk A) {s : Nat} (hs : s < 8) {i : Nat} {L L' : List Nat} (h : ∀ k, k ∈ L ↔ Ball A s i k) (e : stepL A L = L') : ∀ k, k ∈ L' ↔ Ball A s (i + 1) k := by
  intro k
  rw [← e]
  unfold stepL
  simp only [List.mem_filter, List.mem_range, Bool.or_eq_true, List.contains_iff_mem, List.any_eq_true]
  constructor
  · rintro ⟨_, hk | ⟨j, hj, hk⟩⟩
    · exact Or.inl ((h k).1 hk)
    · exact Or.inr ⟨j, (h j).1 hj, hk⟩
  · intro hb
    refine ⟨hb.rch.lt hA hs, ?_⟩
    rcases hb with hb | ⟨j, hj, hk⟩
    · exact Or.inl ((h k).2 hb)
    · exact Or.inr ⟨j, (h j).2 hj, hk⟩

theorem closed_rch {A : Nat → List Nat} (hA : AOk A) {s : Nat} (hs : s < 8) {d : Nat} {K : List Nat} (h : ∀ k, k ∈ K ↔ Ball A s d k) (e : stepL A K = K) : ∀ k, k ∈ K ↔ Rch A s k := by
  intro k
  refine ⟨fun hk => ((h k).1 hk).rch, fun hr => ?_⟩
  induction hr with
  | base => exact (h s).2 (Ball.mono (i := 0) (Nat.zero_le _) rfl)
  | step _ hm ih =>
    have := (stepL_ball hA hs h e _).2 (Or.inr ⟨_, (h _).1 ih, hm⟩)
    exact this

theorem rlist_eq {A : Nat → List Nat} (hA : AOk A) {s : Nat} (hs : s < 8) {K : List Nat} (h : ∀ k, k ∈ K ↔ Rch A s k) (hp : K.Pairwise (· < ·)) : rlist A s = K :=
  strict_ext (rlist_strict A s) hp (fun x => by rw [mem_rlist hA hs, h])

theorem plist_eq {A : Nat → List Nat} (hA : AOk A) {s : Nat} (hs : s < 8) {K : List Nat} (h : ∀ k, k ∈ K ↔ Rch A s k) : plist A s = (List.range 4).filter fun i => K.contains (2 * i) || K.contains (2 * i + 1) := by
  unfold plist
  congr 1
  funext i
  have e : ∀ k, rchB A s k = K.contains k := by
    intro k
    rw [Bool.eq_iff_iff, ← rch_iff hA hs, ← h, List.contains_iff_mem]
  rw [e, e]

def sChain : WS := (linkS (linkS (linkS sNew 0 1).2 1 2).2 2 3).2
theorem sChain_ok : sChain.ok := (linkS_ok (linkS_ok (linkS_ok sNew_ok 0 1) 1 2) 2 3)
theorem sChain_b0 : ∀ k, k ∈ ([0] : List Nat) ↔ Ball sChain.A 0 0 k := fun k => by simp [Ball]
theorem sChain_b1 : ∀ k, k ∈ ([0, 1] : List Nat) ↔ Ball sChain.A 0 1 k := stepL_ball sChain_ok.aok (by decide) sChain_b0 (by kernel_rfl)
theorem sChain_b2 : ∀ k, k ∈ ([0, 1, 2] : List Nat) ↔ Ball sChain.A 0 2 k := stepL_ball sChain_ok.aok (by decide) sChain_b1 (by kernel_rfl)
theorem sChain_b3 : ∀ k, k ∈ ([0, 1, 2, 3] : List Nat) ↔ Ball sChain.A 0 3 k := stepL_ball sChain_ok.aok (by decide) sChain_b2 (by kernel_rfl)
theorem sChain_rch : ∀ k, k ∈ ([0, 1, 2, 3] : List Nat) ↔ Rch sChain.A 0 k := closed_rch sChain_ok.aok (by decide) sChain_b3 (by kernel_rfl)
theorem sChain_list : rlist sChain.A 0 = [0, 1, 2, 3] := rlist_eq sChain_ok.aok (by decide) sChain_rch (by decide)
theorem sChain_rb {r : Nat} (h : RB sChain.A 0 r) : 2 ≤ r ∧ r ≤ 4 := ⟨h.two ⟨1, by decide, (sChain_rch 1).1 (by decide)⟩, h.hi 3 (fun k hk => (sChain_b3 k).1 ((sChain_rch k).2 hk))⟩
def sTwo : WS := (linkS (linkS (linkS (linkS sNew 0 1).2 0 2).2 1 3).2 2 4).2
theorem sTwo_ok : sTwo.ok := (linkS_ok (linkS_ok (linkS_ok (linkS_ok sNew_ok 0 1) 0 2) 1 3) 2 4)
theorem sTwo_b0 : ∀ k, k ∈ ([0] : List Nat) ↔ Ball sTwo.A 0 0 k := fun k => by simp [Ball]
theorem sTwo_b1 : ∀ k, k ∈ ([0, 1, 2] : List Nat) ↔ Ball sTwo.A 0 1 k := stepL_ball sTwo_ok.aok (by decide) sTwo_b0 (by kernel_rfl)
theorem sTwo_b2 : ∀ k, k ∈ ([0, 1, 2, 3, 4] : List Nat) ↔ Ball sTwo.A 0 2 k := stepL_ball sTwo_ok.aok (by decide) sTwo_b1 (by kernel_rfl)
theorem sTwo_rch : ∀ k, k ∈ ([0, 1, 2, 3, 4] : List Nat) ↔ Rch sTwo.A 0 k := closed_rch sTwo_ok.aok (by decide) sTwo_b2 (by kernel_rfl)
theorem sTwo_list : rlist sTwo.A 0 = [0, 1, 2, 3, 4] := rlist_eq sTwo_ok.aok (by decide) sTwo_rch (by decide)
theorem sTwo_rb {r : Nat} (h : RB sTwo.A 0 r) : 2 ≤ r ∧ r ≤ 3 := ⟨h.two ⟨1, by decide, (sTwo_rch 1).1 (by decide)⟩, h.hi 2 (fun k hk => (sTwo_b2 k).1 ((sTwo_rch k).2 hk))⟩
def sWhole : WS := (linkS (linkS (linkS (linkS (linkS (linkS (linkS sNew 0 1).2 0 2).2 0 3).2 1 4).2 1 5).2 1 6).2 2 7).2
theorem sWhole_ok : sWhole.ok := (linkS_ok (linkS_ok (linkS_ok (linkS_ok (linkS_ok (linkS_ok (linkS_ok sNew_ok 0 1) 0 2) 0 3) 1 4) 1 5) 1 6) 2 7)
theorem sWhole_b0 : ∀ k, k ∈ ([0] : List Nat) ↔ Ball sWhole.A 0 0 k := fun k => by simp [Ball]
theorem sWhole_b1 : ∀ k, k ∈ ([0, 1, 2, 3] : List Nat) ↔ Ball sWhole.A 0 1 k := stepL_ball sWhole_ok.aok (by decide) sWhole_b0 (by kernel_rfl)
theorem sWhole_b2 : ∀ k, k ∈ ([0, 1, 2, 3, 4, 5, 6, 7] : List Nat) ↔ Ball sWhole.A 0 2 k := stepL_ball sWhole_ok.aok (by decide) sWhole_b1 (by kernel_rfl)
theorem sWhole_rch : ∀ k, k ∈ ([0, 1, 2, 3, 4, 5, 6, 7] : List Nat) ↔ Rch sWhole.A 0 k := closed_rch sWhole_ok.aok (by decide) sWhole_b2 (by kernel_rfl)
theorem sWhole_list : rlist sWhole.A 0 = [0, 1, 2, 3, 4, 5, 6, 7] := rlist_eq sWhole_ok.aok (by decide) sWhole_rch (by decide)
theorem sWhole_rb {r : Nat} (h : RB sWhole.A 0 r) : 2 ≤ r ∧ r ≤ 3 := ⟨h.two ⟨1, by decide, (sWhole_rch 1).1 (by decide)⟩, h.hi 2 (fun k hk => (sWhole_b2 k).1 ((sWhole_rch k).2 hk))⟩
theorem sWhole_pairs : plist sWhole.A 0 = [0, 1, 2, 3] := by rw [plist_eq sWhole_ok.aok (by decide) sWhole_rch]; decide
theorem join4 : joinS [0, 1, 2, 3] = ⟨#[48, 44, 49, 44, 50, 44, 51]⟩ := by kernel_rfl
theorem join5 : joinS [0, 1, 2, 3, 4] = ⟨#[48, 44, 49, 44, 50, 44, 51, 44, 52]⟩ := by kernel_rfl
theorem join8 : joinS [0, 1, 2, 3, 4, 5, 6, 7] = ⟨#[48, 44, 49, 44, 50, 44, 51, 44, 52, 44, 53, 44, 54, 44, 55]⟩ := by kernel_rfl
theorem ba_self (x : ByteArray) : (x == x) = true := by
  obtain ⟨d⟩ := x
  first
    | (show (d == d) = true; exact beq_self_eq_true d)
    | (simp [BEq.beq, instBEqByteArray.beq]; done)


set_option maxHeartbeats 4000000 in
set_option maxRecDepth 4000 in
theorem edgeChain_calls {ap : Option Addr} {al ac : Nat} (w : World) : Calls Try.prog 3 #[.slice ap al ac] w fun x w' => x = .returned (.bool true) ∧ Chg [] w w' := by
  go_enter Try.func3, Try.ntmps3
  go_wp2_with fail
  refine (wc_new (Chg.refl [] w)).mono ?_
  rintro x w0 ⟨px, rfl, hw⟩
  have HW0 : Hid (WC w w0 px sNew) := hw
  clear hw
  go_wp2_with fail
  refine (wc_link (S := sNew) HW0.out 0 1).mono ?_
  rintro x w1 ⟨rfl, hw⟩
  have HW1 : Hid (WC w w1 px (linkS sNew 0 1).2) := hw
  clear hw HW0
  generalize (linkS sNew 0 1).1 = e1
  go_wp2_with fail
  refine (wc_link (S := (linkS sNew 0 1).2) HW1.out 1 2).mono ?_
  rintro x w2 ⟨rfl, hw⟩
  have HW2 : Hid (WC w w2 px (linkS (linkS sNew 0 1).2 1 2).2) := hw
  clear hw HW1
  generalize (linkS (linkS sNew 0 1).2 1 2).1 = e2
  go_wp2_with fail
  refine (wc_link (S := (linkS (linkS sNew 0 1).2 1 2).2) HW2.out 2 3).mono ?_
  rintro x w3 ⟨rfl, hw⟩
  have HW3 : Hid (WC w w3 px (linkS (linkS (linkS sNew 0 1).2 1 2).2 2 3).2) := hw
  clear hw HW2
  generalize (linkS (linkS (linkS sNew 0 1).2 1 2).2 2 3).1 = e3
  have HR : Hid (WC w w3 px sChain) := HW3.out
  clear HW3
  go_wp2_with fail
  refine (wc_reach (s := 0) HR.out (by decide)).mono ?_
  rintro x wr ⟨r, hrb, rfl, hw⟩
  rw [sChain_list, join4]
  obtain ⟨hr2, hr3⟩ := sChain_rb hrb
  have HS : Hid (WC w wr px { sChain with rd := r }) := hw
  clear hw hrb HR
  rw [show (([0, 1, 2, 3] : List Nat).length) = 4 from rfl]
  go_wp2_with fail
  refine (wc_rounds HS.out).mono ?_
  rintro x wq ⟨rfl, hw⟩
  have HQ : Hid (WC w wq px { sChain with rd := r }) := hw
  clear hw HS
  go_wp2_with fail
  refine (wc_check HQ.out).mono ?_
  rintro x wz ⟨rfl, hw⟩
  have HZ : Hid (Chg [] w wz) := hw.2.1
  clear hw HQ
  have hbs := ba_self ⟨#[48, 44, 49, 44, 50, 44, 51]⟩
  have d1 : decide (2 ≤ r) = true := by simpa using hr2
  have d2 : decide (r ≤ 4) = true := by simpa using hr3
  go_wp2
  go_ret
  exact ⟨rfl, HZ.out⟩

set_option maxHeartbeats 4000000 in
set_option maxRecDepth 4000 in
theorem edgeTwoLevels_calls {ap : Option Addr} {al ac : Nat} (w : World) : Calls Try.prog 8 #[.slice ap al ac] w fun x w' => x = .returned (.bool true) ∧ Chg [] w w' := by
  go_enter Try.func8, Try.ntmps8
  go_wp2_with fail
  refine (wc_new (Chg.refl [] w)).mono ?_
  rintro x w0 ⟨px, rfl, hw⟩
  have HW0 : Hid (WC w w0 px sNew) := hw
  clear hw
  go_wp2_with fail
  refine (wc_link (S := sNew) HW0.out 0 1).mono ?_
  rintro x w1 ⟨rfl, hw⟩
  have HW1 : Hid (WC w w1 px (linkS sNew 0 1).2) := hw
  clear hw HW0
  generalize (linkS sNew 0 1).1 = e1
  go_wp2_with fail
  refine (wc_link (S := (linkS sNew 0 1).2) HW1.out 0 2).mono ?_
  rintro x w2 ⟨rfl, hw⟩
  have HW2 : Hid (WC w w2 px (linkS (linkS sNew 0 1).2 0 2).2) := hw
  clear hw HW1
  generalize (linkS (linkS sNew 0 1).2 0 2).1 = e2
  go_wp2_with fail
  refine (wc_link (S := (linkS (linkS sNew 0 1).2 0 2).2) HW2.out 1 3).mono ?_
  rintro x w3 ⟨rfl, hw⟩
  have HW3 : Hid (WC w w3 px (linkS (linkS (linkS sNew 0 1).2 0 2).2 1 3).2) := hw
  clear hw HW2
  generalize (linkS (linkS (linkS sNew 0 1).2 0 2).2 1 3).1 = e3
  go_wp2_with fail
  refine (wc_link (S := (linkS (linkS (linkS sNew 0 1).2 0 2).2 1 3).2) HW3.out 2 4).mono ?_
  rintro x w4 ⟨rfl, hw⟩
  have HW4 : Hid (WC w w4 px (linkS (linkS (linkS (linkS sNew 0 1).2 0 2).2 1 3).2 2 4).2) := hw
  clear hw HW3
  generalize (linkS (linkS (linkS (linkS sNew 0 1).2 0 2).2 1 3).2 2 4).1 = e4
  have HR : Hid (WC w w4 px sTwo) := HW4.out
  clear HW4
  go_wp2_with fail
  refine (wc_reach (s := 0) HR.out (by decide)).mono ?_
  rintro x wr ⟨r, hrb, rfl, hw⟩
  rw [sTwo_list, join5]
  obtain ⟨hr2, hr3⟩ := sTwo_rb hrb
  have HS : Hid (WC w wr px { sTwo with rd := r }) := hw
  clear hw hrb HR
  rw [show (([0, 1, 2, 3, 4] : List Nat).length) = 5 from rfl]
  go_wp2_with fail
  refine (wc_rounds HS.out).mono ?_
  rintro x wq ⟨rfl, hw⟩
  have HQ : Hid (WC w wq px { sTwo with rd := r }) := hw
  clear hw HS
  go_wp2_with fail
  refine (wc_check HQ.out).mono ?_
  rintro x wz ⟨rfl, hw⟩
  have HZ : Hid (Chg [] w wz) := hw.2.1
  clear hw HQ
  have hbs := ba_self ⟨#[48, 44, 49, 44, 50, 44, 51, 44, 52]⟩
  have d1 : decide (2 ≤ r) = true := by simpa using hr2
  have d2 : decide (r ≤ 3) = true := by simpa using hr3
  go_wp2
  go_ret
  exact ⟨rfl, HZ.out⟩

def WholeC (w0 : World) (x : Ending) (w' : World) : Prop := ∃ px, x = .returned (pt px) ∧ WC w0 w' px sWhole

set_option maxHeartbeats 4000000 in
set_option maxRecDepth 4000 in
theorem whole_calls (w : World) : Calls Try.prog 26 #[] w (WholeC w) := by
  go_enter Try.func26, Try.ntmps26
  go_wp2_with fail
  refine (wc_new (Chg.refl [] w)).mono ?_
  rintro x w0 ⟨px, rfl, hw⟩
  have HW0 : Hid (WC w w0 px sNew) := hw
  clear hw
  go_wp2_with fail
  refine (wc_link (S := sNew) HW0.out 0 1).mono ?_
  rintro x w1 ⟨rfl, hw⟩
  have HW1 : Hid (WC w w1 px (linkS sNew 0 1).2) := hw
  clear hw HW0
  generalize (linkS sNew 0 1).1 = e1
  go_wp2_with fail
  refine (wc_link (S := (linkS sNew 0 1).2) HW1.out 0 2).mono ?_
  rintro x w2 ⟨rfl, hw⟩
  have HW2 : Hid (WC w w2 px (linkS (linkS sNew 0 1).2 0 2).2) := hw
  clear hw HW1
  generalize (linkS (linkS sNew 0 1).2 0 2).1 = e2
  go_wp2_with fail
  refine (wc_link (S := (linkS (linkS sNew 0 1).2 0 2).2) HW2.out 0 3).mono ?_
  rintro x w3 ⟨rfl, hw⟩
  have HW3 : Hid (WC w w3 px (linkS (linkS (linkS sNew 0 1).2 0 2).2 0 3).2) := hw
  clear hw HW2
  generalize (linkS (linkS (linkS sNew 0 1).2 0 2).2 0 3).1 = e3
  go_wp2_with fail
  refine (wc_link (S := (linkS (linkS (linkS sNew 0 1).2 0 2).2 0 3).2) HW3.out 1 4).mono ?_
  rintro x w4 ⟨rfl, hw⟩
  have HW4 : Hid (WC w w4 px (linkS (linkS (linkS (linkS sNew 0 1).2 0 2).2 0 3).2 1 4).2) := hw
  clear hw HW3
  generalize (linkS (linkS (linkS (linkS sNew 0 1).2 0 2).2 0 3).2 1 4).1 = e4
  go_wp2_with fail
  refine (wc_link (S := (linkS (linkS (linkS (linkS sNew 0 1).2 0 2).2 0 3).2 1 4).2) HW4.out 1 5).mono ?_
  rintro x w5 ⟨rfl, hw⟩
  have HW5 : Hid (WC w w5 px (linkS (linkS (linkS (linkS (linkS sNew 0 1).2 0 2).2 0 3).2 1 4).2 1 5).2) := hw
  clear hw HW4
  generalize (linkS (linkS (linkS (linkS (linkS sNew 0 1).2 0 2).2 0 3).2 1 4).2 1 5).1 = e5
  go_wp2_with fail
  refine (wc_link (S := (linkS (linkS (linkS (linkS (linkS sNew 0 1).2 0 2).2 0 3).2 1 4).2 1 5).2) HW5.out 1 6).mono ?_
  rintro x w6 ⟨rfl, hw⟩
  have HW6 : Hid (WC w w6 px (linkS (linkS (linkS (linkS (linkS (linkS sNew 0 1).2 0 2).2 0 3).2 1 4).2 1 5).2 1 6).2) := hw
  clear hw HW5
  generalize (linkS (linkS (linkS (linkS (linkS (linkS sNew 0 1).2 0 2).2 0 3).2 1 4).2 1 5).2 1 6).1 = e6
  go_wp2_with fail
  refine (wc_link (S := (linkS (linkS (linkS (linkS (linkS (linkS sNew 0 1).2 0 2).2 0 3).2 1 4).2 1 5).2 1 6).2) HW6.out 2 7).mono ?_
  rintro x w7 ⟨rfl, hw⟩
  have HW7 : Hid (WC w w7 px (linkS (linkS (linkS (linkS (linkS (linkS (linkS sNew 0 1).2 0 2).2 0 3).2 1 4).2 1 5).2 1 6).2 2 7).2) := hw
  clear hw HW6
  generalize (linkS (linkS (linkS (linkS (linkS (linkS (linkS sNew 0 1).2 0 2).2 0 3).2 1 4).2 1 5).2 1 6).2 2 7).1 = e7
  have HP : Hid (WholeC w (.returned (pt px)) w7) := ⟨px, rfl, HW7.out⟩
  clear HW7
  go_wp2
  go_ret
  exact HP.out

set_option maxHeartbeats 4000000 in
set_option maxRecDepth 4000 in
theorem edgeEveryOther_calls {ap : Option Addr} {al ac : Nat} (w : World) : Calls Try.prog 7 #[.slice ap al ac] w fun x w' => x = .returned (.bool true) ∧ Chg [] w w' := by
  go_enter Try.func7, Try.ntmps7
  go_wp2_with fail
  refine (whole_calls w).mono ?_
  rintro x w0 ⟨px, rfl, hw⟩
  have HW0 : Hid (WC w w0 px sWhole) := hw
  clear hw
  have HR : Hid (WC w w0 px sWhole) := HW0.out
  clear HW0
  go_wp2_with fail
  refine (wc_reach (s := 0) HR.out (by decide)).mono ?_
  rintro x wr ⟨r, hrb, rfl, hw⟩
  rw [sWhole_list, join8]
  obtain ⟨hr2, hr3⟩ := sWhole_rb hrb
  have HS : Hid (WC w wr px { sWhole with rd := r }) := hw
  clear hw hrb HR
  rw [show (([0, 1, 2, 3, 4, 5, 6, 7] : List Nat).length) = 8 from rfl]
  go_wp2_with fail
  refine (wc_rounds HS.out).mono ?_
  rintro x wq ⟨rfl, hw⟩
  have HQ : Hid (WC w wq px { sWhole with rd := r }) := hw
  clear hw HS
  have hbs := ba_self ⟨#[48, 44, 49, 44, 50, 44, 51, 44, 52, 44, 53, 44, 54, 44, 55]⟩
  have d1 : decide (r < 2) = false := by simp; omega
  have d2 : decide (3 < r) = false := by simp; omega
  go_wp2_with fail
  refine (wc_twins (s := 0) HQ.out (by decide)).mono ?_
  rintro x wt ⟨r', hrb, rfl, hw⟩
  rw [show plist ({ sWhole with rd := r } : WS).A 0 = [0, 1, 2, 3] from sWhole_pairs, join4]
  have HZ : Hid (Chg [] w wt) := hw.2.1
  clear hw hrb HQ
  rw [show (([0, 1, 2, 3] : List Nat).length) = 4 from rfl]
  have hbt := ba_self ⟨#[48, 44, 49, 44, 50, 44, 51]⟩
  go_wp2
  go_ret
  exact ⟨rfl, HZ.out⟩
end Go.Proofs.Qxb6500374a.W
