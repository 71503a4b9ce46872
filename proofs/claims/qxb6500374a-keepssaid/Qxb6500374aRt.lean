import Derived.Test.Qxb6500374aGo
import Derived.BigRegion
set_option linter.unusedVariables false
set_option linter.unusedSimpArgs false
namespace Go.Proofs.Qxb6500374a.W
open Go.RowKit Go.Maps

theorem GW.drewN {w W : World} {o : OpD} (h : GW w o W) (q : Nat) : GW w o (W.drewN q) := ⟨h.op, h.res⟩
theorem GW.drew {w W : World} {o : OpD} (h : GW w o W) : GW w o W.drew := ⟨h.op, h.res⟩
theorem GW.set {w W : World} {o : OpD} (h : GW w o W) {p i : Nat} (hp : p < w.heap.size) (v : Value) : GW w o (W.setCell ⟨p, i, none⟩ v) := h.chg (bs := [p]) (Chg.px (Chg.refl _ _)) (by simpa using hp)


theorem gr_end0 {w w3 : World} {o : OpD} {pg pE pH pT pK : Nat} {S : WS} {e n m : Int} {s : ByteArray} {fn : Func} (hfn : fn.results = #[.cell 4 65]) {tmps : Array Value} (hp : tmps.getD 4 undef = .pointer (some ⟨w.heap.size + 1, 0, none⟩))
    (h : GhAt w pg pE pH pT pK S) (hw3 : w3 = (w.alloc (.cells #[.int .i64 o.kind, .int .i64 o.a, .int .i64 o.b, .int .i64 o.c, .string o.s, .string o.t] 63)).alloc (.cells #[.int .i64 e, .int .i64 n, .int .i64 m, .string s] 65))
    (ha : ansD S o = ⟨e, n, m, s⟩) (hst : stepD S o 0 = S) : bodyPost Try.prog fn (GrP pg pE pH pT pK S o w) Exit.ret { tmps := tmps, defers := [] } w3 := by
  subst hw3
  have hr : ((w.alloc (.cells #[.int .i64 o.kind, .int .i64 o.a, .int .i64 o.b, .int .i64 o.c, .string o.s, .string o.t] 63)).alloc (.cells #[.int .i64 e, .int .i64 n, .int .i64 m, .string s] 65)).heap[w.heap.size + 1]? = some (.cells #[.int .i64 e, .int .i64 n, .int .i64 m, .string s] 65 (0, 0)) := by
    have := heap_alloc_new (w.alloc (.cells #[.int .i64 o.kind, .int .i64 o.a, .int .i64 o.b, .int .i64 o.c, .string o.s, .string o.t] 63)) (.cells #[.int .i64 e, .int .i64 n, .int .i64 m, .string s] 65)
    have e' : (w.alloc (.cells #[.int .i64 o.kind, .int .i64 o.a, .int .i64 o.b, .int .i64 o.c, .string o.s, .string o.t] 63)).heap.size = w.heap.size + 1 := by simp
    rw [e'] at this
    exact this
  refine bodyPost_ret (results_cell_row hfn _ _ (w.heap.size + 1) 65 _ (0, 0) _ hp hr Try.underlying65 rfl (by kernel_rfl)) rfl ⟨?_, ?_⟩
  · rw [ha]; rfl
  · rw [hst]
    exact GStp.same h (((Chg.refl _ _).alloc _).alloc _)

/-- The ghost on the way through rates and want. -/
structure RA (w : World) (o : OpD) (pg pE pH pT pK : Nat) (n nn : Int) (H T K : Nat → Int) (A : Nat → List Nat) (W : World) : Prop where
  c : GhC W pg pE pH pT pK n nn H T K A
  g : GW w o W
  ch : Chg (gb pg pE pH pT pK) (gW w o) W
  lt : ∀ x ∈ gb pg pE pH pT pK, x < w.heap.size
theorem RA.start {w : World} {o : OpD} {pg pE pH pT pK n : Nat} {H T K : Nat → Int} {S : WS} (h : GhF w pg pE pH pT pK n H T K S) : RA w o pg pE pH pT pK n S.nn H T K S.A (gW w o) :=
  ⟨(h.chg (gW_chg w o []) (by simp)).c, gW_gw w o, Chg.refl _ _, h.lt⟩
section
variable {w : World} {o : OpD} {pg pE pH pT pK : Nat} {n nn : Int} {H T K : Nat → Int} {A : Nat → List Nat} {W : World} (h : RA w o pg pE pH pT pK n nn H T K A W)
include h
theorem RA.drewN (q : Nat) : RA w o pg pE pH pT pK n nn H T K A (W.drewN q) := ⟨h.c.drewN q, h.g.drewN q, h.ch.drewN q, h.lt⟩
theorem RA.drew : RA w o pg pE pH pT pK n nn H T K A W.drew := ⟨h.c.drew, h.g.drew, h.ch.drew, h.lt⟩
theorem RA.call {W' : World} (hc : Chg [] W W') : RA w o pg pE pH pT pK n nn H T K A W' := ⟨h.c.chg hc (by simp), h.g.chg hc (by simp), h.ch.trans hc.any, h.lt⟩
theorem RA.setH {i : Nat} (hi : i < 10) (v : Int) : RA w o pg pE pH pT pK n nn (updf H i v) T K A (W.setCell ⟨pH, i, none⟩ (.int .i64 v)) := ⟨h.c.setH hi v, h.g.set (h.lt pH (by simp [gb])) _, h.ch.setCell (Or.inl (by simp [gb])) _, h.lt⟩
theorem RA.setT {i : Nat} (hi : i < 10) (v : Int) : RA w o pg pE pH pT pK n nn H (updf T i v) K A (W.setCell ⟨pT, i, none⟩ (.int .i64 v)) := ⟨h.c.setT hi v, h.g.set (h.lt pT (by simp [gb])) _, h.ch.setCell (Or.inl (by simp [gb])) _, h.lt⟩
theorem RA.setK {i : Nat} (hi : i < 10) (v : Int) : RA w o pg pE pH pT pK n nn H T (updf K i v) A (W.setCell ⟨pK, i, none⟩ (.int .i64 v)) := ⟨h.c.setK hi v, h.g.set (h.lt pK (by simp [gb])) _, h.ch.setCell (Or.inl (by simp [gb])) _, h.lt⟩
theorem RA.setN (v : Int) : RA w o pg pE pH pT pK v nn H T K A (W.setCell ⟨pg, 4, none⟩ (.int .i64 v)) := ⟨h.c.setN v, h.g.set (h.lt pg (by simp [gb])) _, h.ch.setCell (Or.inl (by simp [gb])) _, h.lt⟩
theorem RA.setNn (v : Int) : RA w o pg pE pH pT pK n v H T K A (W.setCell ⟨pg, 5, none⟩ (.int .i64 v)) := ⟨h.c.setNn v, h.g.set (h.lt pg (by simp [gb])) _, h.ch.setCell (Or.inl (by simp [gb])) _, h.lt⟩
end
theorem ra_end {w W w3 : World} {o : OpD} {pg pE pH pT pK n : Nat} {H T K : Nat → Int} {S S' : WS} {e m1 m : Int} {s : ByteArray} {fn : Func} (hfn : fn.results = #[.cell 4 65]) {tmps : Array Value} (hp : tmps.getD 4 undef = .pointer (some ⟨w.heap.size + 1, 0, none⟩))
    (h : GhAt w pg pE pH pT pK S) (hs : RA w o pg pE pH pT pK n S'.nn H T K S'.A W) (hok : GOk n H T K S'.cn) (hw3 : w3 = ((((W.setCell ⟨w.heap.size + 1, 0, none⟩ (.int .i64 e)).setCell ⟨w.heap.size + 1, 1, none⟩ (.int .i64 m1)).setCell ⟨w.heap.size + 1, 2, none⟩ (.int .i64 m)).setCell ⟨w.heap.size + 1, 3, none⟩ (.string s)))
    (ha : ansD S o = ⟨e, m1, m, s⟩) (hst : stepD S o 0 = S') : bodyPost Try.prog fn (GrP pg pE pH pT pK S o w) Exit.ret { tmps := tmps, defers := [] } w3 :=
  gr_end hfn hp h ⟨⟨n, H, T, K, hs.c.f hok⟩, hs.ch⟩ hs.g hw3 ha hst

theorem ra_endD {w W w3 : World} {o : OpD} {pg pE pH pT pK n : Nat} {H T K : Nat → Int} {S S' : WS} {e m1 m : Int} {s : ByteArray} {fn : Func} (hfn : fn.results = #[.cell 4 65]) {tmps : Array Value} (hp : tmps.getD 4 undef = .pointer (some ⟨w.heap.size + 1, 0, none⟩))
    (h : GhAt w pg pE pH pT pK S) (hs : RA w o pg pE pH pT pK n S'.nn H T K S'.A W) (hok : GOk n H T K S'.cn) (hw3 : w3 = ((((W.setCell ⟨w.heap.size + 1, 0, none⟩ (.int .i64 e)).setCell ⟨w.heap.size + 1, 1, none⟩ (.int .i64 m1)).setCell ⟨w.heap.size + 1, 2, none⟩ (.int .i64 m)).setCell ⟨w.heap.size + 1, 3, none⟩ (.string s)).drew)
    (ha : ansD S o = ⟨e, m1, m, s⟩) (hst : stepD S o 0 = S') : bodyPost Try.prog fn (GrP pg pE pH pT pK S o w) Exit.ret { tmps := tmps, defers := [] } w3 := by
  subst hw3
  refine bodyPost_ret (results_cell_row hfn _ _ (w.heap.size + 1) 65 _ (0, 0) _ hp (res_row hs.g.res (.int .i64 e) (.int .i64 m1) (.int .i64 m) (.string s)) Try.underlying65 rfl (by kernel_rfl)) rfl ⟨?_, ?_⟩
  · rw [ha]; rfl
  · rw [hst]
    have h2 : GStp pg pE pH pT pK S' (gW w o) W := ⟨⟨n, H, T, K, hs.c.f hok⟩, hs.ch⟩
    exact h2.fin h (res_chg W (w.heap.size + 1) (.int .i64 e) (.int .i64 m1) (.int .i64 m) (.string s)).drew

set_option maxHeartbeats 8000000 in
set_option maxRecDepth 4000 in
theorem rt_bad1 {w : World} {pg pE pH pT pK : Nat} {S : WS} (h : GhAt w pg pE pH pT pK S) (ho : S.ok) (o : OpD) (hk : o.kind = 5 ∨ o.kind = 6 ∨ o.kind = 7) (h1 : o.a < 0) : Calls Try.prog 57 #[pt pg, opV o] w (GrP pg pE pH pT pK S o w) := by
  have H : Hid (GhAt w pg pE pH pT pK S) := h
  have HO : Hid S.ok := ho
  have hr : isR o.a o.b = false := by unfold isR; simp; omega
  have EA : Hid (ansD S o = ⟨5, 0, 0, ⟨#[]⟩⟩ ∧ stepD S o 0 = S) := by
    show _ ∧ _
    rcases hk with e | e | e <;> simp [ansD, stepD, e, noteS, countS, dropS, hr]
  obtain ⟨kind, a, b, c, s, t⟩ := o
  have q1 : a < 0 := h1
  clear h ho hk hr h1
  unfold opV
  go_enter Try.func57, Try.ntmps57
  go_wp2
  exact gr_end0 (o := ⟨kind, a, b, c, s, t⟩) rfl rfl H.out rfl EA.out.1 EA.out.2

set_option maxHeartbeats 8000000 in
set_option maxRecDepth 4000 in
theorem rt_bad2 {w : World} {pg pE pH pT pK : Nat} {S : WS} (h : GhAt w pg pE pH pT pK S) (ho : S.ok) (o : OpD) (hk : o.kind = 5 ∨ o.kind = 6 ∨ o.kind = 7) (h1 : 0 ≤ o.a) (h2 : o.b < o.a) : Calls Try.prog 57 #[pt pg, opV o] w (GrP pg pE pH pT pK S o w) := by
  have H : Hid (GhAt w pg pE pH pT pK S) := h
  have HO : Hid S.ok := ho
  have hr : isR o.a o.b = false := by unfold isR; simp; omega
  have EA : Hid (ansD S o = ⟨5, 0, 0, ⟨#[]⟩⟩ ∧ stepD S o 0 = S) := by
    show _ ∧ _
    rcases hk with e | e | e <;> simp [ansD, stepD, e, noteS, countS, dropS, hr]
  obtain ⟨kind, a, b, c, s, t⟩ := o
  have q1 : 0 ≤ a := h1
  have q2 : b < a := h2
  clear h ho hk hr h1 h2
  unfold opV
  go_enter Try.func57, Try.ntmps57
  go_wp2
  exact gr_end0 (o := ⟨kind, a, b, c, s, t⟩) rfl rfl H.out rfl EA.out.1 EA.out.2

set_option maxHeartbeats 8000000 in
set_option maxRecDepth 4000 in
theorem rt_bad3 {w : World} {pg pE pH pT pK : Nat} {S : WS} (h : GhAt w pg pE pH pT pK S) (ho : S.ok) (o : OpD) (hk : o.kind = 5 ∨ o.kind = 6 ∨ o.kind = 7) (h1 : 0 ≤ o.a) (h2 : o.a ≤ o.b) (h3 : 4 < o.b) : Calls Try.prog 57 #[pt pg, opV o] w (GrP pg pE pH pT pK S o w) := by
  have H : Hid (GhAt w pg pE pH pT pK S) := h
  have HO : Hid S.ok := ho
  have hr : isR o.a o.b = false := by unfold isR; simp; omega
  have EA : Hid (ansD S o = ⟨5, 0, 0, ⟨#[]⟩⟩ ∧ stepD S o 0 = S) := by
    show _ ∧ _
    rcases hk with e | e | e <;> simp [ansD, stepD, e, noteS, countS, dropS, hr]
  obtain ⟨kind, a, b, c, s, t⟩ := o
  have q1 : 0 ≤ a := h1
  have q2 : a ≤ b := h2
  have q3 : 4 < b := h3
  clear h ho hk hr h1 h2 h3
  unfold opV
  go_enter Try.func57, Try.ntmps57
  go_wp2
  exact gr_end0 (o := ⟨kind, a, b, c, s, t⟩) rfl rfl H.out rfl EA.out.1 EA.out.2

set_option maxHeartbeats 8000000 in
set_option maxRecDepth 4000 in
theorem rt_n1 {w : World} {pg pE pH pT pK : Nat} {S : WS} (h : GhAt w pg pE pH pT pK S) (ho : S.ok) (o : OpD) (hcap : ∀ j, j < 7 → S.cn j < 4611686018427387904) (hk : o.kind = 5) (hr : isR o.a o.b = true) (hz : o.b = 0) (hf : 10 ≤ nums S.cn + S.nn) : Calls Try.prog 57 #[pt pg, opV o] w (GrP pg pE pH pT pK S o w) := by
  have H : Hid (GhAt w pg pE pH pT pK S) := h
  have HO : Hid S.ok := ho
  obtain ⟨kind, a0, b0, c, s, t⟩ := o
  simp only at hk hr hz
  subst hk
  obtain ⟨a, b, hab, hb4, rfl, rfl⟩ := isR_iff.1 hr
  obtain ⟨n, HH, TT, KZ, hgf⟩ := h
  have hnum := hgf.ok.num
  have hsm := ho.small
  have HOK : Hid (GOk n HH TT KZ S.cn) := hgf.ok
  have hra : RA w ⟨5, (a : Int), (b : Int), c, s, t⟩ pg pE pH pT pK n S.nn HH TT KZ S.A (gW w ⟨5, (a : Int), (b : Int), c, s, t⟩) := RA.start hgf
  have hn10 : n ≤ 10 := by omega
  have hn7 : n ≤ 7 := by have := nodup_lt_length (l := (List.range 7).filter fun k => decide (0 < S.cn k)) (List.Pairwise.filter _ List.nodup_range) (n := 7) (fun x hx => List.mem_range.1 (List.mem_filter.1 hx).1); rw [nums_filter] at this; omega
  have hnn10 : S.nn ≤ 10 := by omega
  have hfl : 10 ≤ nums S.cn + S.nn := hf
  have dfl : 10 ≤ n + S.nn := by omega
  have dfi : decide ((10 : Int) ≤ (n : Int) + (S.nn : Int)) = true := by simp; omega
  have EA : Hid (ansD S ⟨5, (a : Int), (b : Int), c, s, t⟩ = ⟨3, 0, 0, ⟨#[]⟩⟩ ∧ stepD S ⟨5, (a : Int), (b : Int), c, s, t⟩ 0 = S) := by
    show _ ∧ _
    have e : noteS S a b = (3, S) := by rw [noteS, if_pos hr, if_pos hz, if_pos hfl]
    simp [ansD, stepD, e]
  have db : ((b : Int) == 0) = true := by simpa using hz
  have HNUM : Hid (n = nums S.cn) := hnum
  clear hgf ho hr hsm hz hnum hf
  unfold opV
  go_enter Try.func57, Try.ntmps57
  go_upto_region 1 with fail
  change Code.wp Try.prog _ _ _ (gW w ⟨5, (a : Int), (b : Int), c, s, t⟩)
  generalize gW w ⟨5, (a : Int), (b : Int), c, s, t⟩ = W0 at hra ⊢
  obtain ⟨c1, c2, c3, c4, c5, fg⟩ := hra.c.facts
  obtain ⟨o0, o1, o2, r0, r1, r2, r3, fr⟩ := hra.g.facts
  simp only at o0 o1 o2
  have HRA : Hid (RA w ⟨5, (a : Int), (b : Int), c, s, t⟩ pg pE pH pT pK n S.nn HH TT KZ S.A W0) := hra
  clear hra
  go_wp2_with fail
  go_quiet (fail)
  have hra := HRA.out.drewN nq
  clear c1 c2 c3 c4 c5 fg o0 o1 o2 r0 r1 r2 r3 fr HRA
  generalize W0.drewN nq = W1 at hra ⊢
  obtain ⟨c1, c2, c3, c4, c5, fg⟩ := hra.c.facts
  obtain ⟨o0, o1, o2, r0, r1, r2, r3, fr⟩ := hra.g.facts
  simp only at o0 o1 o2
  have HRA : Hid (RA w ⟨5, (a : Int), (b : Int), c, s, t⟩ pg pE pH pT pK n S.nn HH TT KZ S.A W1) := hra
  clear hra
  clear hfl
  go_wp2
  exact ra_end rfl rfl H.out HRA.out HOK.out rfl EA.out.1 EA.out.2

set_option maxHeartbeats 8000000 in
set_option maxRecDepth 4000 in
theorem rt_n2 {w : World} {pg pE pH pT pK : Nat} {S : WS} (h : GhAt w pg pE pH pT pK S) (ho : S.ok) (o : OpD) (hcap : ∀ j, j < 7 → S.cn j < 4611686018427387904) (hk : o.kind = 5) (hr : isR o.a o.b = true) (hz : o.b = 0) (hf : ¬ 10 ≤ nums S.cn + S.nn) : Calls Try.prog 57 #[pt pg, opV o] w (GrP pg pE pH pT pK S o w) := by
  have H : Hid (GhAt w pg pE pH pT pK S) := h
  have HO : Hid S.ok := ho
  obtain ⟨kind, a0, b0, c, s, t⟩ := o
  simp only at hk hr hz
  subst hk
  obtain ⟨a, b, hab, hb4, rfl, rfl⟩ := isR_iff.1 hr
  obtain ⟨n, HH, TT, KZ, hgf⟩ := h
  have hnum := hgf.ok.num
  have hsm := ho.small
  have HOK : Hid (GOk n HH TT KZ S.cn) := hgf.ok
  have hra : RA w ⟨5, (a : Int), (b : Int), c, s, t⟩ pg pE pH pT pK n S.nn HH TT KZ S.A (gW w ⟨5, (a : Int), (b : Int), c, s, t⟩) := RA.start hgf
  have hn10 : n ≤ 10 := by omega
  have hn7 : n ≤ 7 := by have := nodup_lt_length (l := (List.range 7).filter fun k => decide (0 < S.cn k)) (List.Pairwise.filter _ List.nodup_range) (n := 7) (fun x hx => List.mem_range.1 (List.mem_filter.1 hx).1); rw [nums_filter] at this; omega
  have hnn10 : S.nn ≤ 10 := by omega
  have hfl : nums S.cn + S.nn < 10 := by omega
  have dfl : n + S.nn < 10 := by omega
  have dfi : decide ((10 : Int) ≤ (n : Int) + (S.nn : Int)) = false := by simp; omega
  have EA : Hid (ansD S ⟨5, (a : Int), (b : Int), c, s, t⟩ = ⟨0, 0, 0, ⟨#[]⟩⟩ ∧ stepD S ⟨5, (a : Int), (b : Int), c, s, t⟩ 0 = { S with nn := S.nn + 1 }) := by
    show _ ∧ _
    have e : noteS S a b = (0, { S with nn := S.nn + 1 }) := by rw [noteS, if_pos hr, if_pos hz, if_neg (by omega)]
    simp [ansD, stepD, e]
  have db : ((b : Int) == 0) = true := by simpa using hz
  have HNUM : Hid (n = nums S.cn) := hnum
  clear hgf ho hr hsm hz hnum hf
  unfold opV
  go_enter Try.func57, Try.ntmps57
  go_upto_region 1 with fail
  change Code.wp Try.prog _ _ _ (gW w ⟨5, (a : Int), (b : Int), c, s, t⟩)
  generalize gW w ⟨5, (a : Int), (b : Int), c, s, t⟩ = W0 at hra ⊢
  obtain ⟨c1, c2, c3, c4, c5, fg⟩ := hra.c.facts
  obtain ⟨o0, o1, o2, r0, r1, r2, r3, fr⟩ := hra.g.facts
  simp only at o0 o1 o2
  have HRA : Hid (RA w ⟨5, (a : Int), (b : Int), c, s, t⟩ pg pE pH pT pK n S.nn HH TT KZ S.A W0) := hra
  clear hra
  go_wp2_with fail
  go_quiet (fail)
  have hra := HRA.out.drewN nq
  clear c1 c2 c3 c4 c5 fg o0 o1 o2 r0 r1 r2 r3 fr HRA
  generalize W0.drewN nq = W1 at hra ⊢
  obtain ⟨c1, c2, c3, c4, c5, fg⟩ := hra.c.facts
  obtain ⟨o0, o1, o2, r0, r1, r2, r3, fr⟩ := hra.g.facts
  simp only at o0 o1 o2
  have HRA : Hid (RA w ⟨5, (a : Int), (b : Int), c, s, t⟩ pg pE pH pT pK n S.nn HH TT KZ S.A W1) := hra
  clear hra
  clear hfl
  have hra2 := HRA.out.setNn ((S.nn + 1 : Nat) : Int)
  have HRA2 : Hid (RA w ⟨5, (a : Int), (b : Int), c, s, t⟩ pg pE pH pT pK n ((S.nn + 1 : Nat) : Int) HH TT KZ S.A (W1.setCell ⟨pg, 5, none⟩ (.int .i64 ((S.nn : Int) + 1)))) := by
    show RA _ _ _ _ _ _ _ _ _ _ _ _ _ _
    have e : ((S.nn + 1 : Nat) : Int) = (S.nn : Int) + 1 := by omega
    rw [e] at hra2 ⊢
    exact hra2
  have hpg : pg ≠ w.heap.size + 1 := by have := HRA.out.lt pg (by simp [gb]); omega
  clear hra2
  go_wp2
  exact ra_end (S' := { S with nn := S.nn + 1 }) rfl rfl H.out HRA2.out HOK.out rfl EA.out.1 EA.out.2

set_option maxHeartbeats 8000000 in
set_option maxRecDepth 4000 in
theorem rt_z6 {w : World} {pg pE pH pT pK : Nat} {S : WS} (h : GhAt w pg pE pH pT pK S) (ho : S.ok) (o : OpD) (hcap : ∀ j, j < 7 → S.cn j < 4611686018427387904) (hk : o.kind = 6) (hr : isR o.a o.b = true) (hz : o.b = 0) : Calls Try.prog 57 #[pt pg, opV o] w (GrP pg pE pH pT pK S o w) := by
  have H : Hid (GhAt w pg pE pH pT pK S) := h
  have HO : Hid S.ok := ho
  obtain ⟨kind, a0, b0, c, s, t⟩ := o
  simp only at hk hr hz
  subst hk
  obtain ⟨a, b, hab, hb4, rfl, rfl⟩ := isR_iff.1 hr
  obtain ⟨n, HH, TT, KZ, hgf⟩ := h
  have hnum := hgf.ok.num
  have hsm := ho.small
  have HOK : Hid (GOk n HH TT KZ S.cn) := hgf.ok
  have hra : RA w ⟨6, (a : Int), (b : Int), c, s, t⟩ pg pE pH pT pK n S.nn HH TT KZ S.A (gW w ⟨6, (a : Int), (b : Int), c, s, t⟩) := RA.start hgf
  have hn10 : n ≤ 10 := by omega
  have hn7 : n ≤ 7 := by have := nodup_lt_length (l := (List.range 7).filter fun k => decide (0 < S.cn k)) (List.Pairwise.filter _ List.nodup_range) (n := 7) (fun x hx => List.mem_range.1 (List.mem_filter.1 hx).1); rw [nums_filter] at this; omega
  have hnn10 : S.nn ≤ 10 := by omega
  have EA : Hid (ansD S ⟨6, (a : Int), (b : Int), c, s, t⟩ = ⟨0, 0, 0, ⟨#[]⟩⟩ ∧ stepD S ⟨6, (a : Int), (b : Int), c, s, t⟩ 0 = S) := by
    show _ ∧ _
    have e : countS S a b = (0, 0) := by rw [countS, if_pos hr, if_pos hz]
    simp [ansD, stepD, e]
  have db : ((b : Int) == 0) = true := by simpa using hz
  have HNUM : Hid (n = nums S.cn) := hnum
  clear hgf ho hr hsm hz hnum
  unfold opV
  go_enter Try.func57, Try.ntmps57
  go_upto_region 1 with fail
  change Code.wp Try.prog _ _ _ (gW w ⟨6, (a : Int), (b : Int), c, s, t⟩)
  generalize gW w ⟨6, (a : Int), (b : Int), c, s, t⟩ = W0 at hra ⊢
  obtain ⟨c1, c2, c3, c4, c5, fg⟩ := hra.c.facts
  obtain ⟨o0, o1, o2, r0, r1, r2, r3, fr⟩ := hra.g.facts
  simp only at o0 o1 o2
  have HRA : Hid (RA w ⟨6, (a : Int), (b : Int), c, s, t⟩ pg pE pH pT pK n S.nn HH TT KZ S.A W0) := hra
  clear hra
  go_wp2_with fail
  go_quiet (fail)
  have hra := HRA.out.drewN nq
  clear c1 c2 c3 c4 c5 fg o0 o1 o2 r0 r1 r2 r3 fr HRA
  generalize W0.drewN nq = W1 at hra ⊢
  obtain ⟨c1, c2, c3, c4, c5, fg⟩ := hra.c.facts
  obtain ⟨o0, o1, o2, r0, r1, r2, r3, fr⟩ := hra.g.facts
  simp only at o0 o1 o2
  have HRA : Hid (RA w ⟨6, (a : Int), (b : Int), c, s, t⟩ pg pE pH pT pK n S.nn HH TT KZ S.A W1) := hra
  clear hra
  go_wp2
  exact ra_end rfl rfl H.out HRA.out HOK.out rfl EA.out.1 EA.out.2

set_option maxHeartbeats 8000000 in
set_option maxRecDepth 4000 in
theorem rt_z7 {w : World} {pg pE pH pT pK : Nat} {S : WS} (h : GhAt w pg pE pH pT pK S) (ho : S.ok) (o : OpD) (hcap : ∀ j, j < 7 → S.cn j < 4611686018427387904) (hk : o.kind = 7) (hr : isR o.a o.b = true) (hz : o.b = 0) : Calls Try.prog 57 #[pt pg, opV o] w (GrP pg pE pH pT pK S o w) := by
  have H : Hid (GhAt w pg pE pH pT pK S) := h
  have HO : Hid S.ok := ho
  obtain ⟨kind, a0, b0, c, s, t⟩ := o
  simp only at hk hr hz
  subst hk
  obtain ⟨a, b, hab, hb4, rfl, rfl⟩ := isR_iff.1 hr
  obtain ⟨n, HH, TT, KZ, hgf⟩ := h
  have hnum := hgf.ok.num
  have hsm := ho.small
  have HOK : Hid (GOk n HH TT KZ S.cn) := hgf.ok
  have hra : RA w ⟨7, (a : Int), (b : Int), c, s, t⟩ pg pE pH pT pK n S.nn HH TT KZ S.A (gW w ⟨7, (a : Int), (b : Int), c, s, t⟩) := RA.start hgf
  have hn10 : n ≤ 10 := by omega
  have hn7 : n ≤ 7 := by have := nodup_lt_length (l := (List.range 7).filter fun k => decide (0 < S.cn k)) (List.Pairwise.filter _ List.nodup_range) (n := 7) (fun x hx => List.mem_range.1 (List.mem_filter.1 hx).1); rw [nums_filter] at this; omega
  have hnn10 : S.nn ≤ 10 := by omega
  have EA : Hid (ansD S ⟨7, (a : Int), (b : Int), c, s, t⟩ = ⟨0, 0, 0, ⟨#[]⟩⟩ ∧ stepD S ⟨7, (a : Int), (b : Int), c, s, t⟩ 0 = S) := by
    show _ ∧ _
    have e : dropS S a b = (0, 0, S) := by rw [dropS, if_pos hr, if_pos hz]
    simp [ansD, stepD, e]
  have db : ((b : Int) == 0) = true := by simpa using hz
  have HNUM : Hid (n = nums S.cn) := hnum
  clear hgf ho hr hsm hz hnum
  unfold opV
  go_enter Try.func57, Try.ntmps57
  go_upto_region 1 with fail
  change Code.wp Try.prog _ _ _ (gW w ⟨7, (a : Int), (b : Int), c, s, t⟩)
  generalize gW w ⟨7, (a : Int), (b : Int), c, s, t⟩ = W0 at hra ⊢
  obtain ⟨c1, c2, c3, c4, c5, fg⟩ := hra.c.facts
  obtain ⟨o0, o1, o2, r0, r1, r2, r3, fr⟩ := hra.g.facts
  simp only at o0 o1 o2
  have HRA : Hid (RA w ⟨7, (a : Int), (b : Int), c, s, t⟩ pg pE pH pT pK n S.nn HH TT KZ S.A W0) := hra
  clear hra
  go_wp2_with fail
  go_quiet (fail)
  have hra := HRA.out.drewN nq
  clear c1 c2 c3 c4 c5 fg o0 o1 o2 r0 r1 r2 r3 fr HRA
  generalize W0.drewN nq = W1 at hra ⊢
  obtain ⟨c1, c2, c3, c4, c5, fg⟩ := hra.c.facts
  obtain ⟨o0, o1, o2, r0, r1, r2, r3, fr⟩ := hra.g.facts
  simp only at o0 o1 o2
  have HRA : Hid (RA w ⟨7, (a : Int), (b : Int), c, s, t⟩ pg pE pH pT pK n S.nn HH TT KZ S.A W1) := hra
  clear hra
  go_wp2
  exact ra_end rfl rfl H.out HRA.out HOK.out rfl EA.out.1 EA.out.2

end Go.Proofs.Qxb6500374a.W
