import Derived.Test.Qxb6500374aWq
import Derived.Test.Qxb6500374aSm
import Derived.BigRegion
import Derived.Deep.Cut
set_option linter.unusedVariables false
set_option linter.unusedSimpArgs false
namespace Go.Proofs.Qxb6500374a.W
open Go.RowKit Go.Maps

def oE : Obj := .cells (Array.replicate 64 (.bool false)) 4
def oI : Obj := .cells (Array.replicate 10 (.int .i64 0)) 3
/-- Where an object came to lie. -/
def Lies (s : Nat) (o0 o1 o2 o3 o : Obj) (p : Nat) : Prop := (p = s ∧ o0 = o) ∨ (p = s + 1 ∧ o1 = o) ∨ (p = s + 1 + 1 ∧ o2 = o) ∨ (p = s + 1 + 1 + 1 ∧ o3 = o)
theorem Lies.heap {w : World} {o0 o1 o2 o3 o4 o : Obj} {p : Nat} (h : Lies w.heap.size o0 o1 o2 o3 o p) : (((((w.alloc o0).alloc o1).alloc o2).alloc o3).alloc o4).heap[p]? = some o ∧ w.heap.size ≤ p ∧ p < w.heap.size + 4 := by
  rcases h with ⟨rfl, rfl⟩ | ⟨rfl, rfl⟩ | ⟨rfl, rfl⟩ | ⟨rfl, rfl⟩
  · exact ⟨Chg.keep (bs := []) ((((Chg.refl _ _).alloc _).alloc _).alloc _ |>.alloc _) (heap_alloc_new w _) (by simp), by omega, by omega⟩
  · have := heap_alloc_new (w.alloc o0) o1
    rw [show (w.alloc o0).heap.size = w.heap.size + 1 by simp] at this
    exact ⟨Chg.keep (bs := []) (((Chg.refl _ _).alloc _).alloc _ |>.alloc _) this (by simp), by omega, by omega⟩
  · have := heap_alloc_new ((w.alloc o0).alloc o1) o2
    rw [show ((w.alloc o0).alloc o1).heap.size = w.heap.size + 1 + 1 by simp] at this
    exact ⟨Chg.keep (bs := []) (((Chg.refl _ _).alloc _).alloc _) this (by simp), by omega, by omega⟩
  · have := heap_alloc_new (((w.alloc o0).alloc o1).alloc o2) o3
    rw [show (((w.alloc o0).alloc o1).alloc o2).heap.size = w.heap.size + 1 + 1 + 1 by simp] at this
    exact ⟨Chg.keep (bs := []) ((Chg.refl _ _).alloc _) this (by simp), by omega, by omega⟩
def GNew (w1 : World) (v : Value) (wx : World) : Prop := ∃ pg pE pH pT pK, v = pt pg ∧ GhAt wx pg pE pH pT pK sNew ∧ Chg [] w1 wx ∧ ∀ x ∈ gb pg pE pH pT pK, w1.heap.size ≤ x
theorem gok0 (H T K : Nat → Int) : GOk 0 H T K sNew.cn := ⟨fun i hi => by omega, fun i j hi => by omega, fun k hk hp => by simp [sNew] at hp, fun k hk => by simp [sNew]⟩
theorem ghnew {w1 : World} {o0 o1 o2 o3 : Obj} {pE pH pT pK pg : Nat} {W : World} (hW : W = ((((w1.drew.alloc o0).alloc o1).alloc o2).alloc o3).alloc (.cells #[.slice (some ⟨pE, 0, none⟩) 64 64, .slice (some ⟨pH, 0, none⟩) 10 10, .slice (some ⟨pT, 0, none⟩) 10 10, .slice (some ⟨pK, 0, none⟩) 10 10, .int .i64 0, .int .i64 0] 60))
    (hg : pg = w1.heap.size + 1 + 1 + 1 + 1) (hE : Lies w1.heap.size o0 o1 o2 o3 oE pE) (hH : Lies w1.heap.size o0 o1 o2 o3 oI pH) (hT : Lies w1.heap.size o0 o1 o2 o3 oI pT) (hK : Lies w1.heap.size o0 o1 o2 o3 oI pK) (hn : pE ≠ pH ∧ pE ≠ pT ∧ pE ≠ pK ∧ pH ≠ pT ∧ pH ≠ pK ∧ pT ≠ pK) : GNew w1 (pt pg) W := by
  subst hW hg
  have e := Lies.heap (w := w1.drew) (o4 := .cells #[.slice (some ⟨pE, 0, none⟩) 64 64, .slice (some ⟨pH, 0, none⟩) 10 10, .slice (some ⟨pT, 0, none⟩) 10 10, .slice (some ⟨pK, 0, none⟩) 10 10, .int .i64 0, .int .i64 0] 60) hE
  have h := Lies.heap (w := w1.drew) (o4 := .cells #[.slice (some ⟨pE, 0, none⟩) 64 64, .slice (some ⟨pH, 0, none⟩) 10 10, .slice (some ⟨pT, 0, none⟩) 10 10, .slice (some ⟨pK, 0, none⟩) 10 10, .int .i64 0, .int .i64 0] 60) hH
  have t := Lies.heap (w := w1.drew) (o4 := .cells #[.slice (some ⟨pE, 0, none⟩) 64 64, .slice (some ⟨pH, 0, none⟩) 10 10, .slice (some ⟨pT, 0, none⟩) 10 10, .slice (some ⟨pK, 0, none⟩) 10 10, .int .i64 0, .int .i64 0] 60) hT
  have k := Lies.heap (w := w1.drew) (o4 := .cells #[.slice (some ⟨pE, 0, none⟩) 64 64, .slice (some ⟨pH, 0, none⟩) 10 10, .slice (some ⟨pT, 0, none⟩) 10 10, .slice (some ⟨pK, 0, none⟩) 10 10, .int .i64 0, .int .i64 0] 60) hK
  have hsz : w1.drew.heap.size = w1.heap.size := rfl
  rw [hsz] at e h t k
  refine ⟨w1.heap.size + 1 + 1 + 1 + 1, pE, pH, pT, pK, rfl, ⟨0, fun _ => 0, fun _ => 0, fun _ => 0, ?_, ?_, ?_, ?_, ?_, gok0 _ _ _, ?_⟩, (((((Chg.refl [] w1).drew.alloc _).alloc _).alloc _).alloc _).alloc _, ?_⟩
  · have := heap_alloc_new ((((w1.drew.alloc o0).alloc o1).alloc o2).alloc o3) (.cells #[.slice (some ⟨pE, 0, none⟩) 64 64, .slice (some ⟨pH, 0, none⟩) 10 10, .slice (some ⟨pT, 0, none⟩) 10 10, .slice (some ⟨pK, 0, none⟩) 10 10, .int .i64 0, .int .i64 0] 60)
    rw [show ((((w1.drew.alloc o0).alloc o1).alloc o2).alloc o3).heap.size = w1.heap.size + 1 + 1 + 1 + 1 by simp] at this
    exact this
  · exact ⟨_, e.1, by simp, fun i hi => by simp [hi, eF, sNew]⟩
  · exact ⟨_, h.1, by simp, fun i hi => by simp [hi]⟩
  · exact ⟨_, t.1, by simp, fun i hi => by simp [hi]⟩
  · exact ⟨_, k.1, by simp, fun i hi => by simp [hi]⟩
  · simp only [List.nodup_cons, List.mem_cons, not_or, List.not_mem_nil, not_false_eq_true, List.nodup_nil, and_true]
    omega
  · intro x hx
    simp [gb] at hx
    omega

/-- The desk and the ghost, alike, in blocks from B on. -/
def Tri (B N : Nat) (w : World) (px pa ph pg pE pH pT pK : Nat) (S : WS) : Prop := ∃ Bf Cf, DkAt B N w px pa ph Bf Cf S ∧ GhAt w pg pE pH pT pK S ∧ (∀ x ∈ gb pg pE pH pT pK, x ∉ wb px pa ph S.A Bf) ∧ ∀ x ∈ gb pg pE pH pT pK, B ≤ x
theorem Tri.quiet {B N : Nat} {w w' : World} {px pa ph pg pE pH pT pK : Nat} {S : WS} (h : Tri B N w px pa ph pg pE pH pT pK S) (hc : Chg [] w w') : Tri B N w' px pa ph pg pE pH pT pK S := by
  obtain ⟨Bf, Cf, h1, h2, h3⟩ := h
  exact ⟨Bf, Cf, ⟨h1.at_.chg h1.good.ok.aok hc (by simp), h1.good, h1.new⟩, h2.chg hc (by simp), h3⟩
def TMid (B N : Nat) (w : World) (px pa ph pg pE pH pT pK : Nat) (S : WS) (o : OpD) (r : Nat) : Prop := ∃ Bf Cf, DkAt B (N + 1) w px pa ph Bf Cf (stepD S o r) ∧ GhAt w pg pE pH pT pK S ∧ (∀ x ∈ gb pg pE pH pT pK, x ∉ wb px pa ph (stepD S o r).A Bf) ∧ (∀ x ∈ gb pg pE pH pT pK, B ≤ x) ∧ S.good N ∧ (∀ j, j < 7 → 0 ≤ S.cn j)
theorem tri_do {B N : Nat} {w : World} {px pa ph pg pE pH pT pK : Nat} {S : WS} (h : Tri B N w px pa ph pg pE pH pT pK S) (hB : B ≤ w.heap.size) (hN : (N : Int) ≤ 4398046511104) (o : OpD) (ob : Obj) :
    Calls Try.prog 49 #[pt px, opV o] (w.alloc ob) fun x w' => x = .returned (ansV (ansD S o)) ∧ ∃ r, TMid B N w' px pa ph pg pE pH pT pK S o r ∧ ((o.kind = 3 ∨ o.kind = 4) → isN o.a = true → RB S.A o.a.toNat r) ∧ ∃ bs, Chg bs (w.alloc ob) w' ∧ ∀ x ∈ bs, B ≤ x ∧ x < w.heap.size := by
  obtain ⟨Bf, Cf, h1, h2, h3, h4⟩ := h
  have hp := h1.at_.pos
  have hcap := h1.good.capOk hN hp
  have hA := h1.good.ok.aok
  have ha : Chg [] w (w.alloc ob) := (Chg.refl _ _).alloc _
  have hxl := h1.at_.lt hA
  refine (do_calls (h1.at_.chg hA ha (by simp)) h1.good.ok hcap.2 o).mono ?_
  rintro x w' ⟨r, hrb, rfl, ⟨Bf', Cf', e1, e2⟩, e3⟩
  have hlt := h2.lt
  refine ⟨rfl, r, ⟨Bf', Cf', ⟨e1, stepD_good h1.good hp o r, ?_⟩, (h2.chg ha (by simp)).chg e3 h3, ?_, h4, h1.good, hp⟩, hrb, _, e3, fun x hx => ⟨h1.new x hx, hxl x hx⟩⟩
  · intro x hx
    rcases e2 x hx with e | e
    · exact h1.new x e
    · have := ha.size; omega
  · intro x hx hm
    rcases e2 x hm with e | e
    · exact h3 x hx e
    · have := hlt x hx; have := ha.size; omega
theorem GhAt.like {w : World} {pg pE pH pT pK : Nat} {S S' : WS} (h : GhAt w pg pE pH pT pK S) (hA : S'.A = S.A) (hc : S'.cn = S.cn) (hn : S'.nn = S.nn) : GhAt w pg pE pH pT pK S' := by
  obtain ⟨n, H, T, K, h⟩ := h
  exact ⟨n, H, T, K, by rw [hn]; exact h.row, by rw [hA]; exact h.edge, h.h, h.t, h.k, by rw [hc]; exact h.ok, h.ap⟩
theorem tri_want {B N : Nat} {w : World} {px pa ph pg pE pH pT pK : Nat} {S : WS} {o : OpD} {r : Nat} (h : TMid B N w px pa ph pg pE pH pT pK S o r) (hN : (N : Int) ≤ 4398046511104) (ob : Obj) :
    Calls Try.prog 50 #[pt pg, opV o] (w.alloc ob) fun x w' => x = .returned (ansV (ansD S o)) ∧ Tri B (N + 1) w' px pa ph pg pE pH pT pK (stepD S o r) ∧ Chg (gb pg pE pH pT pK) (w.alloc ob) w' ∧ ∀ x ∈ gb pg pE pH pT pK, B ≤ x ∧ x < w.heap.size := by
  obtain ⟨Bf, Cf, h1, h2, h3, h4, h7, h8⟩ := h
  have hlt := h2.lt
  have ha : Chg [] w (w.alloc ob) := (Chg.refl _ _).alloc _
  refine (want_calls (h2.chg ha (by simp)) h7.ok (h7.capOk hN h8).2 o).mono ?_
  rintro x w' ⟨rfl, e1, e2⟩
  have hA := h1.good.ok.aok
  obtain ⟨l1, l2, l3⟩ := stepD_like S o r
  exact ⟨rfl, ⟨Bf, Cf, ⟨(h1.at_.chg hA ha (by simp)).chg hA e2 (fun x hx hm => h3 x hm hx), h1.good, h1.new⟩, e1.like l1 l2 l3, h3, h4⟩, e2, fun x hx => ⟨h4 x hx, hlt x hx⟩⟩
theorem tri_rounds {B N : Nat} {w : World} {px pa ph pg pE pH pT pK : Nat} {S : WS} (h : Tri B N w px pa ph pg pE pH pT pK S) : Calls Try.prog 24 #[pt px] w fun x w' => x = .returned (.int .i64 S.rd) ∧ w' = w := by
  obtain ⟨Bf, Cf, h1, _⟩ := h
  exact rounds_calls h1.at_
theorem tri_same {B N : Nat} {w : World} {px pa ph pg pE pH pT pK : Nat} {S : WS} (h : Tri B N w px pa ph pg pE pH pT pK S) (hN : (N : Int) ≤ 4398046511104) : Calls Try.prog 48 #[pt px, pt pg] w fun x w' => x = .returned (.bool true) ∧ Chg [] w w' := by
  obtain ⟨Bf, Cf, h1, h2, _⟩ := h
  exact same_calls h1.at_ h2 h1.good.ok (h1.good.capOk hN h1.at_.pos).2
theorem tri_within {B N : Nat} {w : World} {px pa ph pg pE pH pT pK : Nat} {S : WS} (h : Tri B N w px pa ph pg pE pH pT pK S) {s : Nat} (hs : s < 8) : Calls Try.prog 51 #[pt pg, .int .i64 s] w (WithinP S s w) := by
  obtain ⟨Bf, Cf, h1, h2, _⟩ := h
  exact within_calls h2 h1.good.ok hs

theorem ball_back {A : Nat → List Nat} {s d : Nat} (hcl : ∀ k, Ball A s (d + 1) k → Ball A s d k) {k : Nat} (h : Rch A s k) : Ball A s d k := by
  induction h with
  | base => exact Ball.mono (i := 0) (by omega) rfl
  | step _ hm ih => exact hcl _ (Or.inr ⟨_, ih, hm⟩)
theorem RB.bounds {A : Nat → List Nat} (hA : AOk A) {s r : Nat} (hs : s < 8) (h : RB A s r) : 1 ≤ r ∧ r ≤ (fl (rchB A s) 8).length ∧ (1 < (fl (rchB A s) 8).length → 2 ≤ r) := by
  have hmem : ∀ k, k ∈ fl (rchB A s) 8 ↔ Rch A s k := fun k => mem_rlist hA hs
  have hnd : (fl (rchB A s) 8).Nodup := List.Pairwise.filter _ List.nodup_range
  have hpos : 1 ≤ (fl (rchB A s) 8).length := List.length_pos_of_mem ((hmem s).2 .base)
  refine ⟨h.lo, ?_, ?_⟩
  · generalize hn : (fl (rchB A s) 8).length = n at *
    obtain ⟨d, rfl⟩ : ∃ d, n = d + 1 := ⟨n - 1, by omega⟩
    refine h.hi d (fun k hk => ball_back ?_ hk)
    rcases ball_step hA hs d with hb | hb
    · exact hb
    · exfalso
      have := nodup_sub_length (l := (List.range 8).filter (ballB A s (d + 1))) (m := fl (rchB A s) 8) (List.Pairwise.filter _ List.nodup_range) (fun x hx => (hmem x).2 (((ball_iff hA s _ _).2 (List.mem_filter.1 hx).2).rch))
      rw [hn] at this
      unfold ballC at hb
      omega
  · intro hn
    refine h.two ?_
    apply Classical.byContradiction
    intro hno
    have hall : ∀ x ∈ fl (rchB A s) 8, x ∈ [s] := by
      intro x hx
      simp
      apply Classical.byContradiction
      intro hne
      exact hno ⟨x, hne, (hmem x).1 hx⟩
    have := nodup_sub_length hnd hall
    simp at this
    omega
theorem ans_e (S : WS) (o : OpD) (hk : o.kind = 3 ∨ o.kind = 4) : (ansD S o).e = if isN o.a = true then 0 else 1 := by
  rcases hk with e | e
  · simp only [ansD, e]
    simp [reachS]
    split <;> rfl
  · simp only [ansD, e]
    simp [twinsS]
    split <;> rfl
theorem stepD_A (S : WS) (o : OpD) (r : Nat) (hk : o.kind = 3 ∨ o.kind = 4) : (stepD S o r).A = S.A := by
  rcases hk with e | e
  · have : stepD S o r = (reachS S o.a r).2.2.2 := by simp [stepD, e]
    rw [this]; exact (reachS_like S o.a r).1
  · have : stepD S o r = (twinsS S o.a r).2.2.2.2 := by simp [stepD, e]
    rw [this]; exact (twinsS_like S o.a r).1

set_option maxHeartbeats 16000000 in
set_option maxRecDepth 4000 in
theorem upto_calls {w : World} {ap : Option Addr} {len cap : Nat} {f : Nat → OpD} (hs : ScriptAt w ap len f) (hl : len ≤ maxLen) :
    Calls Try.prog 36 #[.slice ap len cap] w fun x w' => x = .returned (.int .i64 (-1)) ∧ Chg [] w w' := by
  have HS : Hid (ScriptAt w ap len f) := hs
  have hlm : len ≤ 9223372036854775807 := by have : maxLen ≤ 9223372036854775807 := by decide
                                             omega
  clear hs hl
  go_enter Try.func36, Try.ntmps36
  go_wp2_with fail
  refine (new_calls w).mono ?_
  rintro x w1 ⟨px, pa, ph, Bf, Cf, rfl, hat, hc1, hnew⟩
  have HAT : Hid (WAt w1 px pa ph Bf Cf sNew) := hat
  have HC1 : Hid (Chg [] w w1) := hc1
  have HNW : Hid (∀ b ∈ wb px pa ph sNew.A Bf, w.heap.size ≤ b) := hnew
  clear hat hc1 hnew
  go_upto_region 2 with fail
  go_cut [4] from 17 (fun s4 wx => GNew w1 s4 wx)
  case first =>
    have hB := mkB64
    have hI := mkI10
    go_region
    all_goals
      go_wp2
      go_meet
      case rel =>
        refine ghnew rfl rfl ?_ ?_ ?_ ?_ (by omega)
        all_goals first | exact Or.inl ⟨rfl, rfl⟩ | exact Or.inr (Or.inl ⟨rfl, rfl⟩) | exact Or.inr (Or.inr (Or.inl ⟨rfl, rfl⟩)) | exact Or.inr (Or.inr (Or.inr ⟨rfl, rfl⟩))
  case rest =>
    obtain ⟨pg, pE, pH, pT, pK, rfl, hgh, hc2, hn2⟩ := hcut
    have HP : Hid (Tri w.heap.size 0 wc px pa ph pg pE pH pT pK sNew) := by
      have hlt := HAT.out.lt sNew_ok.aok
      have hsz := HC1.out.size
      refine ⟨Bf, Cf, ⟨HAT.out.chg sNew_ok.aok hc2 (by simp), sNew_good, HNW.out⟩, hgh, ?_, ?_⟩
      · intro x hx hm
        have := hlt _ hm
        have := hn2 x hx
        omega
      · intro x hx
        have := hn2 x hx
        omega
    have HC2 : Hid (Chg [] w wc) := HC1.out.trans hc2
    clear hgh hc2 hn2 HAT HNW HC1
    go_wp2_with fail
    refine (tri_same HP.out (by decide)).mono ?_
    rintro x w2 ⟨rfl, hc2⟩
    have HPS : Hid (Tri w.heap.size 0 w2 px pa ph pg pE pH pT pK sNew) := HP.out.quiet hc2
    have HCS : Hid (Chg [] w w2) := HC2.out.trans hc2
    clear hc2 HP HC2
    go_wp2_with fail
    go_loopw [5, 6] (fun _ v6 wr => ∃ (i : Nat) (S : WS), i ≤ len ∧ (i : Int) ≤ 4398046511104 ∧ v6 = .int .i64 i ∧ Tri w.heap.size i wr px pa ph pg pE pH pT pK S ∧ Chg [] w wr) (fun _ v6 _ => ((len : Int) - intOf v6).toNat)
    case atStart => exact ⟨0, sNew, by omega, by decide, rfl, HPS.out, HCS.out⟩
    case round =>
      clear HPS HCS
      obtain ⟨i, S, hi, hi42, rfl, hp, hc⟩ := hrel
      rename World => wI
      have HPi : Hid (Tri w.heap.size i wI px pa ph pg pE pH pT pK S) := hp
      have HCi : Hid (Chg [] w wI) := hc
      have HGL : Hid (∀ x ∈ gb pg pE pH pT pK, x < wI.heap.size) := by obtain ⟨_, _, _, h2, _⟩ := hp; exact h2.lt
      clear hp hc
      by_cases hil : i < len
      · by_cases him : (i : Int) < 4398046511104
        · rcases HS.out with h0 | ⟨b, off, rfl, hb, hcell⟩
          · omega
          · obtain ⟨k0, k1, k2, k3, k4, k5⟩ := hcell i hil
            have hsame := HCi.out.block b hb (by simp)
            rw [← cell_same hsame] at k0 k1 k2 k3 k4 k5
            have d1 : decide (i < len) = true := by simpa using hil
            have d2 : decide ((i : Int) < 4398046511104) = true := decide_eq_true him
            have HIM : Hid ((i : Int) < 4398046511104) := him
            have HI1 : Hid (((i + 1 : Nat) : Int) ≤ 4398046511104) := by show _ ≤ _; omega
            clear hcell hsame hb
            generalize hfi : f i = oo at *
            clear hfi
            obtain ⟨kind, a, b2, c, s, t⟩ := oo
            simp only at k0 k1 k2 k3 k4 k5
            have hqa : Chg [] wI (wI.alloc (.cells #[.int .i64 kind, .int .i64 a, .int .i64 b2, .int .i64 c, .string s, .string t] 63)) := (Chg.refl _ _).alloc _
            have HQA : Hid (Chg [] wI (wI.alloc (.cells #[.int .i64 kind, .int .i64 a, .int .i64 b2, .int .i64 c, .string s, .string t] 63))) := hqa
            clear hqa
            go_wp2_with fail
            refine (tri_rounds (HPi.out.quiet HQA.out)).mono ?_
            rintro x w3 ⟨rfl, hw3⟩
            have hw3' : w3 = wI.alloc (.cells #[.int .i64 kind, .int .i64 a, .int .i64 b2, .int .i64 c, .string s, .string t] 63) := hw3
            clear hw3
            subst hw3'
            clear k0 k1 k2 k3 k4 k5
            go_wp2_with fail
            refine (tri_do HPi.out HCi.out.size (by have := HIM.out; omega) ⟨kind, a, b2, c, s, t⟩ (.cells #[.int .i64 kind, .int .i64 a, .int .i64 b2, .int .i64 c, .string s, .string t] 63)).mono ?_
            rintro x w3 ⟨rfl, r, hp3, hrb, bs3, hc3, hbs3⟩
            have HRB : Hid ((kind = 3 ∨ kind = 4) → isN a = true → RB S.A a.toNat r) := hrb
            generalize hr : ansD S ⟨kind, a, b2, c, s, t⟩ = rr
            have HR : Hid (ansD S ⟨kind, a, b2, c, s, t⟩ = rr) := hr
            clear hr hrb
            rw [ansV]
            have HP3 : Hid (TMid w.heap.size i w3 px pa ph pg pE pH pT pK S ⟨kind, a, b2, c, s, t⟩ r) := hp3
            have HC3 : Hid (Chg [] w w3) := Chg.above (HCi.out.trans HQA.out) hc3 (fun x hx => (hbs3 x hx).1)
            have HO3 : Hid (w3.heap[wI.heap.size]? = some (.cells #[.int .i64 kind, .int .i64 a, .int .i64 b2, .int .i64 c, .string s, .string t] 63 (0, 0))) := hc3.keep (heap_alloc_new _ _) (fun hx => by have := (hbs3 _ hx).2; omega)
            have q0 : w3.cell? ⟨wI.heap.size, 0, none⟩ = some (.int .i64 kind) := cell_of HO3.out rfl
            have q1 : w3.cell? ⟨wI.heap.size, 1, none⟩ = some (.int .i64 a) := cell_of HO3.out rfl
            have q2 : w3.cell? ⟨wI.heap.size, 2, none⟩ = some (.int .i64 b2) := cell_of HO3.out rfl
            have q3 : w3.cell? ⟨wI.heap.size, 3, none⟩ = some (.int .i64 c) := cell_of HO3.out rfl
            have q4 : w3.cell? ⟨wI.heap.size, 4, none⟩ = some (.string s) := cell_of HO3.out rfl
            have q5 : w3.cell? ⟨wI.heap.size, 5, none⟩ = some (.string t) := cell_of HO3.out rfl
            have hI3 : wI.heap.size < w3.heap.size := lt_of HO3.out
            clear hp3 hc3 hbs3
            go_wp2_with fail
            refine (tri_want HP3.out (by have := HIM.out; omega) (.cells (ansCells rr.e rr.n rr.m rr.s) 65)).mono ?_
            rintro x w4 ⟨rfl, hp4, hc4, hbs⟩
            rw [HR.out, ansV]
            have HP4 : Hid (Tri w.heap.size (i + 1) w4 px pa ph pg pE pH pT pK (stepD S ⟨kind, a, b2, c, s, t⟩ r)) := hp4
            have HC4 : Hid (Chg [] w w4) := Chg.above (HC3.out.alloc _) hc4 (fun x hx => (hbs x hx).1)
            have HA4 : Hid (w4.heap[w3.heap.size]? = some (.cells (ansCells rr.e rr.n rr.m rr.s) 65 (0, 0))) := hc4.keep (heap_alloc_new _ _) (fun hx => by have := (hbs _ hx).2; omega)
            have HO4 : Hid (w4.heap[wI.heap.size]? = some (.cells #[.int .i64 kind, .int .i64 a, .int .i64 b2, .int .i64 c, .string s, .string t] 63 (0, 0))) := by
              show _ = _
              have h3 : (w3.alloc (.cells (ansCells rr.e rr.n rr.m rr.s) 65)).heap[wI.heap.size]? = some (.cells #[.int .i64 kind, .int .i64 a, .int .i64 b2, .int .i64 c, .string s, .string t] 63 (0, 0)) := Chg.keep (bs := []) ((Chg.refl _ _).alloc _) HO3.out (by simp)
              exact hc4.keep h3 (fun hx => by have := hbs _ hx; have := HGL.out _ hx; omega)
            have hsz3 : w3.heap.size < w4.heap.size := lt_of HA4.out
            have hI4 : wI.heap.size < w4.heap.size := lt_of HO4.out
            have x0 : w4.cell? ⟨w3.heap.size, 0, none⟩ = some (.int .i64 rr.e) := cell_of HA4.out rfl
            have x1 : w4.cell? ⟨w3.heap.size, 1, none⟩ = some (.int .i64 rr.n) := cell_of HA4.out rfl
            have x2 : w4.cell? ⟨w3.heap.size, 2, none⟩ = some (.int .i64 rr.m) := cell_of HA4.out rfl
            have x3 : w4.cell? ⟨w3.heap.size, 3, none⟩ = some (.string rr.s) := cell_of HA4.out rfl
            have y0 : w4.cell? ⟨wI.heap.size, 0, none⟩ = some (.int .i64 kind) := cell_of HO4.out rfl
            have y1 : w4.cell? ⟨wI.heap.size, 1, none⟩ = some (.int .i64 a) := cell_of HO4.out rfl
            have hnq := neq_ans rr.e rr.n rr.m rr.s (w4.alloc (.cells (ansCells rr.e rr.n rr.m rr.s) 65))
            have hbq := baSelf rr.s
            have HQ6 : Hid (Chg [] w4 (w4.alloc (.cells (ansCells rr.e rr.n rr.m rr.s) 65))) := (Chg.refl _ _).alloc _
            clear hp4 hc4 hbs q0 q1 q2 q3 q4 q5
            have HRD : Hid ((stepD S ⟨kind, a, b2, c, s, t⟩ r).rd = if (kind = 3 ∨ kind = 4) ∧ isN a = true then (r : Int) else S.rd) := stepD_rd S ⟨kind, a, b2, c, s, t⟩ r
            have HAE : Hid ((kind = 3 ∨ kind = 4) → rr.e = if isN a = true then 0 else 1) := fun hk => by rw [← HR.out]; exact ans_e S ⟨kind, a, b2, c, s, t⟩ hk
            have HSA : Hid ((kind = 3 ∨ kind = 4) → (stepD S ⟨kind, a, b2, c, s, t⟩ r).A = S.A) := fun hk => stepD_A S ⟨kind, a, b2, c, s, t⟩ r hk
            have HOKS : Hid (AOk S.A) := by obtain ⟨_, _, h1, _⟩ := HPi.out; exact h1.good.ok.aok
            by_cases hask : (kind = 3 ∨ kind = 4) ∧ isN a = true
            · obtain ⟨k, hk8, rfl⟩ := isN_iff.1 hask.2
              have hre : rr.e = 0 := by rw [HAE.out hask.1, if_pos hask.2]
              have hrd : (stepD S ⟨kind, (k : Int), b2, c, s, t⟩ r).rd = (r : Int) := by rw [HRD.out, if_pos hask]
              have hbd := (HRB.out hask.1 hask.2).bounds HOKS.out hk8
              have HFL : Hid (fl (rchB (stepD S ⟨kind, (k : Int), b2, c, s, t⟩ r).A k) 8 = fl (rchB S.A k) 8) := by show _ = _; rw [HSA.out hask.1]
              have HK8 : Hid (k < 8) := hk8
              obtain ⟨hb1, hb2, hb3⟩ := hbd
              have hfl8 := fl_le (rchB S.A k) 8
              have dke : (rr.e == 0) = true := by rw [hre]; rfl
              have dk : (kind == 3) = true ∨ ((kind == 3) = false ∧ (kind == 4) = true) := by
                rcases hask.1 with e | e
                · exact Or.inl (by simp [e])
                · by_cases e3 : kind = 3
                  · exact Or.inl (by simp [e3])
                  · exact Or.inr ⟨by simpa using e3, by simp [e]⟩
              clear hask hre
              generalize hln : (fl (rchB S.A k) 8).length = ln at *
              have HLN : Hid ((fl (rchB S.A k) 8).length = ln) := hln
              clear hln
              rcases dk with dk | ⟨dk, dk4⟩
              all_goals
                go_wp2_with fail
                refine (tri_rounds (HP4.out.quiet HQ6.out)).mono ?_
                rintro x w6 ⟨rfl, hw6⟩
                have hw6' : w6 = w4.alloc (.cells (ansCells rr.e rr.n rr.m rr.s) 65) := hw6
                clear hw6
                subst hw6'
                rw [hrd]
                go_wp2_with fail
                refine (tri_within (HP4.out.quiet HQ6.out) HK8.out).mono ?_
                rintro x w7 ⟨pI, hpI, rfl, hgrid, hc7⟩
                have HC7 : Hid (Chg [] w w7) := (HC4.out.trans HQ6.out).trans hc7
                have HP7 : Hid (Tri w.heap.size (i + 1) w7 px pa ph pg pE pH pT pK (stepD S ⟨kind, (k : Int), b2, c, s, t⟩ r)) := (HP4.out.quiet HQ6.out).quiet hc7
                have HGR : Hid (BGrid w7 pI 8 (rchB (stepD S ⟨kind, (k : Int), b2, c, s, t⟩ r).A k)) := hgrid
                clear x0 x1 x2 x3 y0 y1 hnq hbq hc7 hgrid hpI
                go_wp2_with fail
                refine (told1_calls HGR.out).mono ?_
                rintro x w8 ⟨rfl, hc8⟩
                rw [HFL.out, HLN.out]
                have HC8 : Hid (Chg [] w w8) := HC7.out.trans hc8
                have HP8 : Hid (Tri w.heap.size (i + 1) w8 px pa ph pg pE pH pT pK (stepD S ⟨kind, (k : Int), b2, c, s, t⟩ r)) := HP7.out.quiet hc8
                clear hc8
                go_wp2_with fail
                refine (tri_rounds HP8.out).mono ?_
                rintro x w9 ⟨rfl, hw9⟩
                obtain rfl : w8 = w9 := hw9.symm
                clear hw9
                rw [hrd]
                have e1 : decide ((r : Int) < 1) = false := by simp; omega
                have e2 : decide ((ln : Int) < (r : Int)) = false := by simp; omega
                have e3 : decide (ln < r) = false := by simp; omega
                have hcl : (decide ((1 : Int) < (ln : Int)) = true ∧ decide ((r : Int) < 2) = false) ∨ decide ((1 : Int) < (ln : Int)) = false := by
                  by_cases h1 : 1 < ln
                  · exact Or.inl ⟨by simp; omega, by have := hb3 h1; simp; omega⟩
                  · exact Or.inr (by simp; omega)
                rcases hcl with ⟨f1, f2⟩ | f1
                all_goals
                  go_wp2_with fail
                  refine (tri_same HP8.out HI1.out).mono ?_
                  rintro x w10 ⟨rfl, hc10⟩
                  have HC10 : Hid (Chg [] w w10) := HC8.out.trans hc10
                  have HP10 : Hid (Tri w.heap.size (i + 1) w10 px pa ph pg pE pH pT pK (stepD S ⟨kind, (k : Int), b2, c, s, t⟩ r)) := HP8.out.quiet hc10
                  clear hc10
                  go_wp2
                  go_roundw
                  case rel =>
                    first
                    | exact ⟨i + 1, _, by omega, HI1.out, by simp, HP10.out, HC10.out⟩
                    | ((repeat apply Exists.intro); refine ⟨?_, rfl⟩; exact ⟨i + 1, _, by omega, HI1.out, by simp, HP10.out, HC10.out⟩)
                  case measure => first | (simp [intOf]; done) | (simp [intOf]; omega)
            · have hrd : (stepD S ⟨kind, a, b2, c, s, t⟩ r).rd = S.rd := by rw [HRD.out, if_neg hask]
              have dk : ((kind == 3) = false ∧ (kind == 4) = false) ∨ ((kind == 3) = true ∧ (rr.e == 0) = false) ∨ ((kind == 3) = false ∧ (kind == 4) = true ∧ (rr.e == 0) = false) := by
                by_cases e3 : kind = 3
                · right; left
                  have hn : ¬ isN a = true := fun hx => hask ⟨Or.inl e3, hx⟩
                  refine ⟨by simp [e3], ?_⟩
                  rw [HAE.out (Or.inl e3), if_neg hn]
                  rfl
                · by_cases e4 : kind = 4
                  · right; right
                    have hn : ¬ isN a = true := fun hx => hask ⟨Or.inr e4, hx⟩
                    refine ⟨by simpa using e3, by simp [e4], ?_⟩
                    rw [HAE.out (Or.inr e4), if_neg hn]
                    rfl
                  · exact Or.inl ⟨by simpa using e3, by simpa using e4⟩
              clear hask
              rcases dk with ⟨dk3, dk4⟩ | ⟨dk3, dke⟩ | ⟨dk3, dk4, dke⟩
              all_goals
                go_wp2_with fail
                refine (tri_rounds (HP4.out.quiet HQ6.out)).mono ?_
                rintro x w6 ⟨rfl, hw6⟩
                have hw6' : w6 = w4.alloc (.cells (ansCells rr.e rr.n rr.m rr.s) 65) := hw6
                clear hw6
                subst hw6'
                rw [hrd]
                go_wp2_with fail
                refine (tri_same (HP4.out.quiet HQ6.out) HI1.out).mono ?_
                rintro x w10 ⟨rfl, hc10⟩
                have HC10 : Hid (Chg [] w w10) := (HC4.out.trans HQ6.out).trans hc10
                have HP10 : Hid (Tri w.heap.size (i + 1) w10 px pa ph pg pE pH pT pK (stepD S ⟨kind, a, b2, c, s, t⟩ r)) := (HP4.out.quiet HQ6.out).quiet hc10
                clear hc10
                go_wp2
                go_roundw
                case rel =>
                  first
                  | exact ⟨i + 1, _, by omega, HI1.out, by simp, HP10.out, HC10.out⟩
                  | ((repeat apply Exists.intro); refine ⟨?_, rfl⟩; exact ⟨i + 1, _, by omega, HI1.out, by simp, HP10.out, HC10.out⟩)
                case measure => first | (simp [intOf]; done) | (simp [intOf]; omega)
        · have d1 : decide (i < len) = true := by simpa using hil
          have d2 : decide ((i : Int) < 4398046511104) = false := decide_eq_false him
          go_wp2
          go_ret
          exact ⟨rfl, HCi.out⟩
      · have d1 : decide (i < len) = false := by simpa using hil
        go_wp2
        go_ret
        exact ⟨rfl, HCi.out⟩

set_option maxRecDepth 4000 in
theorem keeps_calls {w : World} {ap : Option Addr} {len cap : Nat} {f : Nat → OpD} (hs : ScriptAt w ap len f) (hl : len ≤ maxLen) :
    Calls Try.prog 18 #[.slice ap len cap] w fun x w' => x = .returned (.bool true) ∧ Chg [] w w' := by
  have HS : Hid (ScriptAt w ap len f ∧ len ≤ maxLen) := ⟨hs, hl⟩
  clear hs hl
  go_enter Try.func18, Try.ntmps18
  go_wp2_with fail
  refine (upto_calls HS.out.1 HS.out.2).mono ?_
  rintro x w2 ⟨rfl, hc2⟩
  have HC2 : Hid (Chg [] w w2) := hc2
  clear hc2
  go_wp2
  go_ret
  exact ⟨rfl, HC2.out⟩
end Go.Proofs.Qxb6500374a.W
