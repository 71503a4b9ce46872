import Derived.Test.Qxb6500371aMd9
set_option linter.unusedVariables false
set_option linter.unusedSimpArgs false
namespace Go.Proofs.Qxb6500371a.W
open Go.RowKit Go.Maps

theorem ow1 (g : GS) (a b c : Int) (s t : ByteArray) : owesG g ⟨1, a, b, c, s, t⟩ = (⟨(wrapG g a).1, 0, 0, ⟨#[]⟩⟩, (wrapG g a).2) := by
  rw [owesG, if_pos rfl, wrapG]
  simp only
  split
  · rfl
  · split
    · rfl
    · split <;> rfl
theorem ow4 (g : GS) (a b c : Int) (s t : ByteArray) : owesG g ⟨4, a, b, c, s, t⟩ = (⟨(delM g.m a).1, 0, 0, ⟨#[]⟩⟩, delG g a) := by
  have e : owesG g ⟨4, a, b, c, s, t⟩ = if (delM g.m a).1 = 0 then (⟨0, 0, 0, ⟨#[]⟩⟩, turnG { g with m := (delM g.m a).2 } 68 a g.n) else (⟨(delM g.m a).1, 0, 0, ⟨#[]⟩⟩, g) := by simp [owesG]
  rw [e, delG]
  split
  · rename_i h; rw [h]
  · rfl
theorem ow7 (g : GS) (a b c : Int) (s t : ByteArray) : owesG g ⟨7, a, b, c, s, t⟩ = (⟨(hitsG g).2, (hitsG g).1, 0, ⟨#[]⟩⟩, g) := by
  have e : owesG g ⟨7, a, b, c, s, t⟩ = if g.n = 0 ∨ g.kind (g.n - 1) = 1 then (⟨7, 0, 0, ⟨#[]⟩⟩, g) else (⟨0, g.c.hits, 0, ⟨#[]⟩⟩, g) := by simp [owesG]
  rw [e, hitsG]
  split <;> rfl
theorem ow8 (g : GS) (a b c : Int) (s t : ByteArray) : owesG g ⟨8, a, b, c, s, t⟩ = (⟨0, 0, 0, ⟨#[]⟩⟩, { g with held := g.n, thn := thnG g }) := by
  simp [owesG, thnG]
theorem ow9 (g : GS) (a b c : Int) (s t : ByteArray) : owesG g ⟨9, a, b, c, s, t⟩ = (⟨(hgetG g a).2.1, (hgetG g a).1, 0, ⟨#[]⟩⟩, (hgetG g a).2.2) := by
  have e : owesG g ⟨9, a, b, c, s, t⟩ = if g.held < 0 then (⟨8, 0, 0, ⟨#[]⟩⟩, g) else (⟨(gotG g g.held.toNat a).2.1, (gotG g g.held.toNat a).1, 0, ⟨#[]⟩⟩, (gotG g g.held.toNat a).2.2) := by simp [owesG]
  rw [e, hgetG]
  split <;> rfl
theorem ow13 (g : GS) (a b c : Int) (s t : ByteArray) : owesG g ⟨13, a, b, c, s, t⟩ = (⟨(hputG g a b).1, 0, 0, ⟨#[]⟩⟩, (hputG g a b).2) := by
  have e : owesG g ⟨13, a, b, c, s, t⟩ = if g.held < 0 then (⟨8, 0, 0, ⟨#[]⟩⟩, g) else (⟨(laidG g g.held.toNat a b).1, 0, 0, ⟨#[]⟩⟩, (laidG g g.held.toNat a b).2) := by simp [owesG]
  rw [e, hputG]
  split <;> rfl
theorem hget_kind (g : GS) (k : Int) : (hgetG g k).2.2.n = g.n ∧ (hgetG g k).2.2.kind = g.kind := by
  unfold hgetG
  split
  · exact ⟨rfl, rfl⟩
  · exact gotG_kind _ _ _
theorem hput_kind (g : GS) (k v : Int) : (hputG g k v).2.n = g.n ∧ (hputG g k v).2.kind = g.kind := by
  unfold hputG
  split
  · exact ⟨rfl, rfl⟩
  · exact laidG_kind _ _ _ _
theorem b0_n (g : GS) : 0 < g.n ∨ b0 g = 0 := by
  by_cases h : 0 < g.n
  · exact Or.inl h
  · exact Or.inr (by unfold b0; rw [if_neg (fun z => h z.1)])

set_option maxHeartbeats 4000000 in
set_option maxRecDepth 4000 in
theorem dm_wrap {w : World} {pd cap N : Nat} {lp : Option Addr} {S : RS} {g : GS} (h : MI w pd g lp cap) (hal : MAll N S g) (o : OpD) (hk : o.kind = 1) :
    Calls Try.prog 50 #[pt pd, opV o] w fun x w' => x = .returned (ansV (owed g o)) ∧ XStp pd lp (owesG g o).2 w w' := by
  have H : Hid (MI w pd g lp cap) := h
  have HL : Hid (MAll N S g) := hal
  have HM : Hid (GM (b0 g) (baseI g) g) := gm_of hal.rel
  obtain ⟨kind, a, b, c, s, t⟩ := o
  simp only at hk
  subst hk
  have H0 : Hid (MI (doW w ⟨1, a, b, c, s, t⟩) pd g lp cap) := MdAt.chg h (doW_chg _ _ []) (by simp)
  have EA : Hid (owed g ⟨1, a, b, c, s, t⟩ = ⟨(wrapG g a).1, 0, 0, ⟨#[]⟩⟩ ∧ (owesG g ⟨1, a, b, c, s, t⟩).2 = (wrapG g a).2) := by
    show _ ∧ _
    rw [owed, if_neg (show ¬ (1 : Int) = 10 by decide), ow1]
    exact ⟨rfl, rfl⟩
  clear h hal
  unfold opV
  go_enter Try.func50, Try.ntmps50
  go_wp2_with fail
  refine (mwrap_calls H0.out HM.out (by have := HL.out.rel.free g.n (by rw [HL.out.rel.n]; exact Nat.le_refl _); exact this) a).mono ?_
  rintro x w2 ⟨rfl, hst⟩
  have hs : XStp pd lp (wrapG g a).2 (doW w ⟨1, a, b, c, s, t⟩) w2 := hst.x
  have hkp := domW_keep H.out hs.chg
  have a0 : w2.cell? ⟨w.heap.size + 1 + 1, 0, none⟩ = some (.int .i64 0) := cell_of hkp.1 rfl
  have a1 : w2.cell? ⟨w.heap.size + 1 + 1, 1, none⟩ = some (.int .i64 0) := cell_of hkp.1 rfl
  have a2 : w2.cell? ⟨w.heap.size + 1 + 1, 2, none⟩ = some (.int .i64 0) := cell_of hkp.1 rfl
  have a3 : w2.cell? ⟨w.heap.size + 1 + 1, 3, none⟩ = some (.string ⟨#[]⟩) := cell_of hkp.1 rfl
  have r0 : w2.cell? ⟨w.heap.size + 1, 0, none⟩ = some (.int .i64 0) := cell_of hkp.2 rfl
  have r1 : w2.cell? ⟨w.heap.size + 1, 1, none⟩ = some (.int .i64 0) := cell_of hkp.2 rfl
  have r2 : w2.cell? ⟨w.heap.size + 1, 2, none⟩ = some (.int .i64 0) := cell_of hkp.2 rfl
  have r3 : w2.cell? ⟨w.heap.size + 1, 3, none⟩ = some (.string ⟨#[]⟩) := cell_of hkp.2 rfl
  have fa : ∀ i, w2.frozen? ⟨w.heap.size + 1 + 1, i, none⟩ = false := fun i => frozen_of hkp.1
  have fr : ∀ i, w2.frozen? ⟨w.heap.size + 1, i, none⟩ = false := fun i => frozen_of hkp.2
  have HS : Hid (XStp pd lp (wrapG g a).2 (doW w ⟨1, a, b, c, s, t⟩) w2) := hs
  have HP2 : Hid (w2.heap[w.heap.size + 1 + 1]? = some (.cells (ansCells 0 0 0 ⟨#[]⟩) 30 (0, 0)) ∧ w2.heap[w.heap.size + 1]? = some (.cells (ansCells 0 0 0 ⟨#[]⟩) 30 (0, 0))) := hkp
  clear hs hkp hst
  go_wp2
  refine dom_ret (R := w.heap.size + 1) rfl (ans_row (by omega) HP2.out.1 HP2.out.2 (Chg.px (Chg.refl _ _)) _ _ _ _) ?_
  rw [EA.out.1, EA.out.2]
  exact ⟨rfl, XStp.fin H.out HS.out (ans_chg (Chg.px (Chg.refl _ _)) _ _ _ _)⟩

set_option maxHeartbeats 4000000 in
set_option maxRecDepth 4000 in
theorem dm_get {w : World} {pd cap N : Nat} {lp : Option Addr} {S : RS} {g : GS} (h : MI w pd g lp cap) (hal : MAll N S g) (o : OpD) (hk : o.kind = 2) :
    Calls Try.prog 50 #[pt pd, opV o] w fun x w' => x = .returned (ansV (owed g o)) ∧ XStp pd lp (owesG g o).2 w w' := by
  have H : Hid (MI w pd g lp cap) := h
  have HL : Hid (MAll N S g) := hal
  have HM : Hid (GM (b0 g) (baseI g) g) := gm_of hal.rel
  obtain ⟨kind, a, b, c, s, t⟩ := o
  simp only at hk
  subst hk
  have H0 : Hid (MI (doW w ⟨2, a, b, c, s, t⟩) pd g lp cap) := MdAt.chg h (doW_chg _ _ []) (by simp)
  have EA : Hid (owed g ⟨2, a, b, c, s, t⟩ = ⟨(gotG g g.n a).2.1, (gotG g g.n a).1, 0, ⟨#[]⟩⟩ ∧ (owesG g ⟨2, a, b, c, s, t⟩).2 = (gotG g g.n a).2.2) := by
    show _ ∧ _
    exact ⟨rfl, rfl⟩
  clear h hal
  unfold opV
  go_enter Try.func50, Try.ntmps50
  go_wp2_with fail
  refine (mget_calls H0.out HM.out a g.n (Nat.le_refl _) (b0_n g)).mono ?_
  rintro x w2 ⟨rfl, hg, hc⟩
  have hs : XStp pd lp (gotG g g.n a).2.2 (doW w ⟨2, a, b, c, s, t⟩) w2 := MStp.x ⟨hg, hc.mono (by simp)⟩ (gotG_kind _ _ _)
  have hkp := domW_keep H.out hs.chg
  have a0 : w2.cell? ⟨w.heap.size + 1 + 1, 0, none⟩ = some (.int .i64 0) := cell_of hkp.1 rfl
  have a1 : w2.cell? ⟨w.heap.size + 1 + 1, 1, none⟩ = some (.int .i64 0) := cell_of hkp.1 rfl
  have a2 : w2.cell? ⟨w.heap.size + 1 + 1, 2, none⟩ = some (.int .i64 0) := cell_of hkp.1 rfl
  have a3 : w2.cell? ⟨w.heap.size + 1 + 1, 3, none⟩ = some (.string ⟨#[]⟩) := cell_of hkp.1 rfl
  have r0 : w2.cell? ⟨w.heap.size + 1, 0, none⟩ = some (.int .i64 0) := cell_of hkp.2 rfl
  have r1 : w2.cell? ⟨w.heap.size + 1, 1, none⟩ = some (.int .i64 0) := cell_of hkp.2 rfl
  have r2 : w2.cell? ⟨w.heap.size + 1, 2, none⟩ = some (.int .i64 0) := cell_of hkp.2 rfl
  have r3 : w2.cell? ⟨w.heap.size + 1, 3, none⟩ = some (.string ⟨#[]⟩) := cell_of hkp.2 rfl
  have fa : ∀ i, w2.frozen? ⟨w.heap.size + 1 + 1, i, none⟩ = false := fun i => frozen_of hkp.1
  have fr : ∀ i, w2.frozen? ⟨w.heap.size + 1, i, none⟩ = false := fun i => frozen_of hkp.2
  have HS : Hid (XStp pd lp (gotG g g.n a).2.2 (doW w ⟨2, a, b, c, s, t⟩) w2) := hs
  have HP2 : Hid (w2.heap[w.heap.size + 1 + 1]? = some (.cells (ansCells 0 0 0 ⟨#[]⟩) 30 (0, 0)) ∧ w2.heap[w.heap.size + 1]? = some (.cells (ansCells 0 0 0 ⟨#[]⟩) 30 (0, 0))) := hkp
  clear hs hkp hg hc
  go_wp2
  refine dom_ret (R := w.heap.size + 1) rfl (ans_row (by omega) HP2.out.1 HP2.out.2 (Chg.px (Chg.px (Chg.refl _ _))) _ _ _ _) ?_
  rw [EA.out.1, EA.out.2]
  exact ⟨rfl, XStp.fin H.out HS.out (ans_chg (Chg.px (Chg.px (Chg.refl _ _))) _ _ _ _)⟩

set_option maxHeartbeats 4000000 in
set_option maxRecDepth 4000 in
theorem dm_put {w : World} {pd cap N : Nat} {lp : Option Addr} {S : RS} {g : GS} (h : MI w pd g lp cap) (hal : MAll N S g) (o : OpD) (hk : o.kind = 3) :
    Calls Try.prog 50 #[pt pd, opV o] w fun x w' => x = .returned (ansV (owed g o)) ∧ XStp pd lp (owesG g o).2 w w' := by
  have H : Hid (MI w pd g lp cap) := h
  have HL : Hid (MAll N S g) := hal
  have HM : Hid (GM (b0 g) (baseI g) g) := gm_of hal.rel
  obtain ⟨kind, a, b, c, s, t⟩ := o
  simp only at hk
  subst hk
  have H0 : Hid (MI (doW w ⟨3, a, b, c, s, t⟩) pd g lp cap) := MdAt.chg h (doW_chg _ _ []) (by simp)
  have EA : Hid (owed g ⟨3, a, b, c, s, t⟩ = ⟨(laidG g g.n a b).1, 0, 0, ⟨#[]⟩⟩ ∧ (owesG g ⟨3, a, b, c, s, t⟩).2 = (laidG g g.n a b).2) := by
    show _ ∧ _
    exact ⟨rfl, rfl⟩
  clear h hal
  unfold opV
  go_enter Try.func50, Try.ntmps50
  go_wp2_with fail
  refine (mputt_calls H0.out HM.out a b).mono ?_
  rintro x w2 ⟨rfl, hst⟩
  have hs : XStp pd lp (laidG g g.n a b).2 (doW w ⟨3, a, b, c, s, t⟩) w2 := MStp.x hst (laidG_kind _ _ _ _)
  have hkp := domW_keep H.out hs.chg
  have a0 : w2.cell? ⟨w.heap.size + 1 + 1, 0, none⟩ = some (.int .i64 0) := cell_of hkp.1 rfl
  have a1 : w2.cell? ⟨w.heap.size + 1 + 1, 1, none⟩ = some (.int .i64 0) := cell_of hkp.1 rfl
  have a2 : w2.cell? ⟨w.heap.size + 1 + 1, 2, none⟩ = some (.int .i64 0) := cell_of hkp.1 rfl
  have a3 : w2.cell? ⟨w.heap.size + 1 + 1, 3, none⟩ = some (.string ⟨#[]⟩) := cell_of hkp.1 rfl
  have r0 : w2.cell? ⟨w.heap.size + 1, 0, none⟩ = some (.int .i64 0) := cell_of hkp.2 rfl
  have r1 : w2.cell? ⟨w.heap.size + 1, 1, none⟩ = some (.int .i64 0) := cell_of hkp.2 rfl
  have r2 : w2.cell? ⟨w.heap.size + 1, 2, none⟩ = some (.int .i64 0) := cell_of hkp.2 rfl
  have r3 : w2.cell? ⟨w.heap.size + 1, 3, none⟩ = some (.string ⟨#[]⟩) := cell_of hkp.2 rfl
  have fa : ∀ i, w2.frozen? ⟨w.heap.size + 1 + 1, i, none⟩ = false := fun i => frozen_of hkp.1
  have fr : ∀ i, w2.frozen? ⟨w.heap.size + 1, i, none⟩ = false := fun i => frozen_of hkp.2
  have HS : Hid (XStp pd lp (laidG g g.n a b).2 (doW w ⟨3, a, b, c, s, t⟩) w2) := hs
  have HP2 : Hid (w2.heap[w.heap.size + 1 + 1]? = some (.cells (ansCells 0 0 0 ⟨#[]⟩) 30 (0, 0)) ∧ w2.heap[w.heap.size + 1]? = some (.cells (ansCells 0 0 0 ⟨#[]⟩) 30 (0, 0))) := hkp
  clear hs hkp hst
  go_wp2
  refine dom_ret (R := w.heap.size + 1) rfl (ans_row (by omega) HP2.out.1 HP2.out.2 (Chg.px (Chg.refl _ _)) _ _ _ _) ?_
  rw [EA.out.1, EA.out.2]
  exact ⟨rfl, XStp.fin H.out HS.out (ans_chg (Chg.px (Chg.refl _ _)) _ _ _ _)⟩

set_option maxHeartbeats 4000000 in
set_option maxRecDepth 4000 in
theorem dm_del {w : World} {pd cap N : Nat} {lp : Option Addr} {S : RS} {g : GS} (h : MI w pd g lp cap) (hal : MAll N S g) (o : OpD) (hk : o.kind = 4) :
    Calls Try.prog 50 #[pt pd, opV o] w fun x w' => x = .returned (ansV (owed g o)) ∧ XStp pd lp (owesG g o).2 w w' := by
  have H : Hid (MI w pd g lp cap) := h
  have HL : Hid (MAll N S g) := hal
  have HM : Hid (GM (b0 g) (baseI g) g) := gm_of hal.rel
  obtain ⟨kind, a, b, c, s, t⟩ := o
  simp only at hk
  subst hk
  have H0 : Hid (MI (doW w ⟨4, a, b, c, s, t⟩) pd g lp cap) := MdAt.chg h (doW_chg _ _ []) (by simp)
  have EA : Hid (owed g ⟨4, a, b, c, s, t⟩ = ⟨(delM g.m a).1, 0, 0, ⟨#[]⟩⟩ ∧ (owesG g ⟨4, a, b, c, s, t⟩).2 = (delG g a)) := by
    show _ ∧ _
    rw [owed, if_neg (show ¬ (4 : Int) = 10 by decide), ow4]
    exact ⟨rfl, rfl⟩
  clear h hal
  unfold opV
  go_enter Try.func50, Try.ntmps50
  go_wp2_with fail
  refine (mdel_calls H0.out HM.out a).mono ?_
  rintro x w2 ⟨rfl, hst⟩
  have hs : XStp pd lp (delG g a) (doW w ⟨4, a, b, c, s, t⟩) w2 := MStp.x hst (delG_kind _ _)
  have hkp := domW_keep H.out hs.chg
  have a0 : w2.cell? ⟨w.heap.size + 1 + 1, 0, none⟩ = some (.int .i64 0) := cell_of hkp.1 rfl
  have a1 : w2.cell? ⟨w.heap.size + 1 + 1, 1, none⟩ = some (.int .i64 0) := cell_of hkp.1 rfl
  have a2 : w2.cell? ⟨w.heap.size + 1 + 1, 2, none⟩ = some (.int .i64 0) := cell_of hkp.1 rfl
  have a3 : w2.cell? ⟨w.heap.size + 1 + 1, 3, none⟩ = some (.string ⟨#[]⟩) := cell_of hkp.1 rfl
  have r0 : w2.cell? ⟨w.heap.size + 1, 0, none⟩ = some (.int .i64 0) := cell_of hkp.2 rfl
  have r1 : w2.cell? ⟨w.heap.size + 1, 1, none⟩ = some (.int .i64 0) := cell_of hkp.2 rfl
  have r2 : w2.cell? ⟨w.heap.size + 1, 2, none⟩ = some (.int .i64 0) := cell_of hkp.2 rfl
  have r3 : w2.cell? ⟨w.heap.size + 1, 3, none⟩ = some (.string ⟨#[]⟩) := cell_of hkp.2 rfl
  have fa : ∀ i, w2.frozen? ⟨w.heap.size + 1 + 1, i, none⟩ = false := fun i => frozen_of hkp.1
  have fr : ∀ i, w2.frozen? ⟨w.heap.size + 1, i, none⟩ = false := fun i => frozen_of hkp.2
  have HS : Hid (XStp pd lp (delG g a) (doW w ⟨4, a, b, c, s, t⟩) w2) := hs
  have HP2 : Hid (w2.heap[w.heap.size + 1 + 1]? = some (.cells (ansCells 0 0 0 ⟨#[]⟩) 30 (0, 0)) ∧ w2.heap[w.heap.size + 1]? = some (.cells (ansCells 0 0 0 ⟨#[]⟩) 30 (0, 0))) := hkp
  clear hs hkp hst
  go_wp2
  refine dom_ret (R := w.heap.size + 1) rfl (ans_row (by omega) HP2.out.1 HP2.out.2 (Chg.px (Chg.refl _ _)) _ _ _ _) ?_
  rw [EA.out.1, EA.out.2]
  exact ⟨rfl, XStp.fin H.out HS.out (ans_chg (Chg.px (Chg.refl _ _)) _ _ _ _)⟩

set_option maxHeartbeats 4000000 in
set_option maxRecDepth 4000 in
theorem dm_clear {w : World} {pd cap N : Nat} {lp : Option Addr} {S : RS} {g : GS} (h : MI w pd g lp cap) (hal : MAll N S g) (o : OpD) (hk : o.kind = 12) :
    Calls Try.prog 50 #[pt pd, opV o] w fun x w' => x = .returned (ansV (owed g o)) ∧ XStp pd lp (owesG g o).2 w w' := by
  have H : Hid (MI w pd g lp cap) := h
  have HL : Hid (MAll N S g) := hal
  have HM : Hid (GM (b0 g) (baseI g) g) := gm_of hal.rel
  obtain ⟨kind, a, b, c, s, t⟩ := o
  simp only at hk
  subst hk
  have H0 : Hid (MI (doW w ⟨12, a, b, c, s, t⟩) pd g lp cap) := MdAt.chg h (doW_chg _ _ []) (by simp)
  have EA : Hid (owed g ⟨12, a, b, c, s, t⟩ = ⟨0, 0, 0, ⟨#[]⟩⟩ ∧ (owesG g ⟨12, a, b, c, s, t⟩).2 = { g with m := zeroM, c := { g.c with full := false } }) := by
    show _ ∧ _
    exact ⟨rfl, rfl⟩
  clear h hal
  unfold opV
  go_enter Try.func50, Try.ntmps50
  go_wp2_with fail
  refine (mclear_calls H0.out).mono ?_
  rintro x w2 ⟨rfl, hst⟩
  have hs : XStp pd lp { g with m := zeroM, c := { g.c with full := false } } (doW w ⟨12, a, b, c, s, t⟩) w2 := MStp.x hst ⟨rfl, rfl⟩
  have hkp := domW_keep H.out hs.chg
  have a0 : w2.cell? ⟨w.heap.size + 1 + 1, 0, none⟩ = some (.int .i64 0) := cell_of hkp.1 rfl
  have a1 : w2.cell? ⟨w.heap.size + 1 + 1, 1, none⟩ = some (.int .i64 0) := cell_of hkp.1 rfl
  have a2 : w2.cell? ⟨w.heap.size + 1 + 1, 2, none⟩ = some (.int .i64 0) := cell_of hkp.1 rfl
  have a3 : w2.cell? ⟨w.heap.size + 1 + 1, 3, none⟩ = some (.string ⟨#[]⟩) := cell_of hkp.1 rfl
  have r0 : w2.cell? ⟨w.heap.size + 1, 0, none⟩ = some (.int .i64 0) := cell_of hkp.2 rfl
  have r1 : w2.cell? ⟨w.heap.size + 1, 1, none⟩ = some (.int .i64 0) := cell_of hkp.2 rfl
  have r2 : w2.cell? ⟨w.heap.size + 1, 2, none⟩ = some (.int .i64 0) := cell_of hkp.2 rfl
  have r3 : w2.cell? ⟨w.heap.size + 1, 3, none⟩ = some (.string ⟨#[]⟩) := cell_of hkp.2 rfl
  have fa : ∀ i, w2.frozen? ⟨w.heap.size + 1 + 1, i, none⟩ = false := fun i => frozen_of hkp.1
  have fr : ∀ i, w2.frozen? ⟨w.heap.size + 1, i, none⟩ = false := fun i => frozen_of hkp.2
  have HS : Hid (XStp pd lp { g with m := zeroM, c := { g.c with full := false } } (doW w ⟨12, a, b, c, s, t⟩) w2) := hs
  have HP2 : Hid (w2.heap[w.heap.size + 1 + 1]? = some (.cells (ansCells 0 0 0 ⟨#[]⟩) 30 (0, 0)) ∧ w2.heap[w.heap.size + 1]? = some (.cells (ansCells 0 0 0 ⟨#[]⟩) 30 (0, 0))) := hkp
  clear hs hkp hst
  go_wp2
  refine dom_ret (R := w.heap.size + 1) rfl (ans_row (by omega) HP2.out.1 HP2.out.2 (Chg.px (Chg.refl _ _)) _ _ _ _) ?_
  rw [EA.out.1, EA.out.2]
  exact ⟨rfl, XStp.fin H.out HS.out (ans_chg (Chg.px (Chg.refl _ _)) _ _ _ _)⟩

set_option maxHeartbeats 4000000 in
set_option maxRecDepth 4000 in
theorem dm_len {w : World} {pd cap N : Nat} {lp : Option Addr} {S : RS} {g : GS} (h : MI w pd g lp cap) (hal : MAll N S g) (o : OpD) (hk : o.kind = 5) :
    Calls Try.prog 50 #[pt pd, opV o] w fun x w' => x = .returned (ansV (owed g o)) ∧ XStp pd lp (owesG g o).2 w w' := by
  have H : Hid (MI w pd g lp cap) := h
  have HL : Hid (MAll N S g) := hal
  have HM : Hid (GM (b0 g) (baseI g) g) := gm_of hal.rel
  obtain ⟨kind, a, b, c, s, t⟩ := o
  simp only at hk
  subst hk
  have H0 : Hid (MI (doW w ⟨5, a, b, c, s, t⟩) pd g lp cap) := MdAt.chg h (doW_chg _ _ []) (by simp)
  have EA : Hid (owed g ⟨5, a, b, c, s, t⟩ = ⟨0, g.m.cnt, 0, ⟨#[]⟩⟩ ∧ (owesG g ⟨5, a, b, c, s, t⟩).2 = g) := by
    show _ ∧ _
    exact ⟨rfl, rfl⟩
  clear h hal
  unfold opV
  go_enter Try.func50, Try.ntmps50
  go_wp2_with fail
  refine (mlen_calls H0.out).mono ?_
  rintro x w2 ⟨rfl, hw2⟩
  have hcc : Chg [] (doW w ⟨5, a, b, c, s, t⟩) w2 := by rw [hw2]; exact Chg.refl _ _
  clear hw2
  have hs : XStp pd lp g (doW w ⟨5, a, b, c, s, t⟩) w2 := XStp.same H0.out hcc
  have hkp := domW_keep H.out hs.chg
  have a0 : w2.cell? ⟨w.heap.size + 1 + 1, 0, none⟩ = some (.int .i64 0) := cell_of hkp.1 rfl
  have a1 : w2.cell? ⟨w.heap.size + 1 + 1, 1, none⟩ = some (.int .i64 0) := cell_of hkp.1 rfl
  have a2 : w2.cell? ⟨w.heap.size + 1 + 1, 2, none⟩ = some (.int .i64 0) := cell_of hkp.1 rfl
  have a3 : w2.cell? ⟨w.heap.size + 1 + 1, 3, none⟩ = some (.string ⟨#[]⟩) := cell_of hkp.1 rfl
  have r0 : w2.cell? ⟨w.heap.size + 1, 0, none⟩ = some (.int .i64 0) := cell_of hkp.2 rfl
  have r1 : w2.cell? ⟨w.heap.size + 1, 1, none⟩ = some (.int .i64 0) := cell_of hkp.2 rfl
  have r2 : w2.cell? ⟨w.heap.size + 1, 2, none⟩ = some (.int .i64 0) := cell_of hkp.2 rfl
  have r3 : w2.cell? ⟨w.heap.size + 1, 3, none⟩ = some (.string ⟨#[]⟩) := cell_of hkp.2 rfl
  have fa : ∀ i, w2.frozen? ⟨w.heap.size + 1 + 1, i, none⟩ = false := fun i => frozen_of hkp.1
  have fr : ∀ i, w2.frozen? ⟨w.heap.size + 1, i, none⟩ = false := fun i => frozen_of hkp.2
  have HS : Hid (XStp pd lp g (doW w ⟨5, a, b, c, s, t⟩) w2) := hs
  have HP2 : Hid (w2.heap[w.heap.size + 1 + 1]? = some (.cells (ansCells 0 0 0 ⟨#[]⟩) 30 (0, 0)) ∧ w2.heap[w.heap.size + 1]? = some (.cells (ansCells 0 0 0 ⟨#[]⟩) 30 (0, 0))) := hkp
  clear hs hkp hcc
  go_wp2
  refine dom_ret (R := w.heap.size + 1) rfl (ans_row (by omega) HP2.out.1 HP2.out.2 (Chg.px (Chg.refl _ _)) _ _ _ _) ?_
  rw [EA.out.1, EA.out.2]
  exact ⟨rfl, XStp.fin H.out HS.out (ans_chg (Chg.px (Chg.refl _ _)) _ _ _ _)⟩

set_option maxHeartbeats 4000000 in
set_option maxRecDepth 4000 in
theorem dm_name {w : World} {pd cap N : Nat} {lp : Option Addr} {S : RS} {g : GS} (h : MI w pd g lp cap) (hal : MAll N S g) (o : OpD) (hk : o.kind = 6) :
    Calls Try.prog 50 #[pt pd, opV o] w fun x w' => x = .returned (ansV (owed g o)) ∧ XStp pd lp (owesG g o).2 w w' := by
  have H : Hid (MI w pd g lp cap) := h
  have HL : Hid (MAll N S g) := hal
  have HM : Hid (GM (b0 g) (baseI g) g) := gm_of hal.rel
  obtain ⟨kind, a, b, c, s, t⟩ := o
  simp only at hk
  subst hk
  have H0 : Hid (MI (doW w ⟨6, a, b, c, s, t⟩) pd g lp cap) := MdAt.chg h (doW_chg _ _ []) (by simp)
  have EA : Hid (owed g ⟨6, a, b, c, s, t⟩ = ⟨0, 0, 0, namedG g⟩ ∧ (owesG g ⟨6, a, b, c, s, t⟩).2 = g) := by
    show _ ∧ _
    exact ⟨rfl, rfl⟩
  clear h hal
  unfold opV
  go_enter Try.func50, Try.ntmps50
  go_wp2_with fail
  refine (mname_calls H0.out HM.out).mono ?_
  rintro x w2 ⟨rfl, hw2⟩
  have hcc : Chg [] (doW w ⟨6, a, b, c, s, t⟩) w2 := by rw [hw2]; exact Chg.refl _ _
  clear hw2
  have hs : XStp pd lp g (doW w ⟨6, a, b, c, s, t⟩) w2 := XStp.same H0.out hcc
  have hkp := domW_keep H.out hs.chg
  have a0 : w2.cell? ⟨w.heap.size + 1 + 1, 0, none⟩ = some (.int .i64 0) := cell_of hkp.1 rfl
  have a1 : w2.cell? ⟨w.heap.size + 1 + 1, 1, none⟩ = some (.int .i64 0) := cell_of hkp.1 rfl
  have a2 : w2.cell? ⟨w.heap.size + 1 + 1, 2, none⟩ = some (.int .i64 0) := cell_of hkp.1 rfl
  have a3 : w2.cell? ⟨w.heap.size + 1 + 1, 3, none⟩ = some (.string ⟨#[]⟩) := cell_of hkp.1 rfl
  have r0 : w2.cell? ⟨w.heap.size + 1, 0, none⟩ = some (.int .i64 0) := cell_of hkp.2 rfl
  have r1 : w2.cell? ⟨w.heap.size + 1, 1, none⟩ = some (.int .i64 0) := cell_of hkp.2 rfl
  have r2 : w2.cell? ⟨w.heap.size + 1, 2, none⟩ = some (.int .i64 0) := cell_of hkp.2 rfl
  have r3 : w2.cell? ⟨w.heap.size + 1, 3, none⟩ = some (.string ⟨#[]⟩) := cell_of hkp.2 rfl
  have fa : ∀ i, w2.frozen? ⟨w.heap.size + 1 + 1, i, none⟩ = false := fun i => frozen_of hkp.1
  have fr : ∀ i, w2.frozen? ⟨w.heap.size + 1, i, none⟩ = false := fun i => frozen_of hkp.2
  have HS : Hid (XStp pd lp g (doW w ⟨6, a, b, c, s, t⟩) w2) := hs
  have HP2 : Hid (w2.heap[w.heap.size + 1 + 1]? = some (.cells (ansCells 0 0 0 ⟨#[]⟩) 30 (0, 0)) ∧ w2.heap[w.heap.size + 1]? = some (.cells (ansCells 0 0 0 ⟨#[]⟩) 30 (0, 0))) := hkp
  clear hs hkp hcc
  go_wp2
  refine dom_ret (R := w.heap.size + 1) rfl (ans_row (by omega) HP2.out.1 HP2.out.2 (Chg.px (Chg.refl _ _)) _ _ _ _) ?_
  rw [EA.out.1, EA.out.2]
  exact ⟨rfl, XStp.fin H.out HS.out (ans_chg (Chg.px (Chg.refl _ _)) _ _ _ _)⟩

set_option maxHeartbeats 4000000 in
set_option maxRecDepth 4000 in
theorem dm_hits {w : World} {pd cap N : Nat} {lp : Option Addr} {S : RS} {g : GS} (h : MI w pd g lp cap) (hal : MAll N S g) (o : OpD) (hk : o.kind = 7) :
    Calls Try.prog 50 #[pt pd, opV o] w fun x w' => x = .returned (ansV (owed g o)) ∧ XStp pd lp (owesG g o).2 w w' := by
  have H : Hid (MI w pd g lp cap) := h
  have HL : Hid (MAll N S g) := hal
  have HM : Hid (GM (b0 g) (baseI g) g) := gm_of hal.rel
  obtain ⟨kind, a, b, c, s, t⟩ := o
  simp only at hk
  subst hk
  have H0 : Hid (MI (doW w ⟨7, a, b, c, s, t⟩) pd g lp cap) := MdAt.chg h (doW_chg _ _ []) (by simp)
  have EA : Hid (owed g ⟨7, a, b, c, s, t⟩ = ⟨(hitsG g).2, (hitsG g).1, 0, ⟨#[]⟩⟩ ∧ (owesG g ⟨7, a, b, c, s, t⟩).2 = g) := by
    show _ ∧ _
    rw [owed, if_neg (show ¬ (7 : Int) = 10 by decide), ow7]
    exact ⟨rfl, rfl⟩
  clear h hal
  unfold opV
  go_enter Try.func50, Try.ntmps50
  go_wp2_with fail
  refine (mhits_calls H0.out HM.out).mono ?_
  rintro x w2 ⟨rfl, hw2⟩
  have hcc : Chg [] (doW w ⟨7, a, b, c, s, t⟩) w2 := by rw [hw2]; exact Chg.refl _ _
  clear hw2
  have hs : XStp pd lp g (doW w ⟨7, a, b, c, s, t⟩) w2 := XStp.same H0.out hcc
  have hkp := domW_keep H.out hs.chg
  have a0 : w2.cell? ⟨w.heap.size + 1 + 1, 0, none⟩ = some (.int .i64 0) := cell_of hkp.1 rfl
  have a1 : w2.cell? ⟨w.heap.size + 1 + 1, 1, none⟩ = some (.int .i64 0) := cell_of hkp.1 rfl
  have a2 : w2.cell? ⟨w.heap.size + 1 + 1, 2, none⟩ = some (.int .i64 0) := cell_of hkp.1 rfl
  have a3 : w2.cell? ⟨w.heap.size + 1 + 1, 3, none⟩ = some (.string ⟨#[]⟩) := cell_of hkp.1 rfl
  have r0 : w2.cell? ⟨w.heap.size + 1, 0, none⟩ = some (.int .i64 0) := cell_of hkp.2 rfl
  have r1 : w2.cell? ⟨w.heap.size + 1, 1, none⟩ = some (.int .i64 0) := cell_of hkp.2 rfl
  have r2 : w2.cell? ⟨w.heap.size + 1, 2, none⟩ = some (.int .i64 0) := cell_of hkp.2 rfl
  have r3 : w2.cell? ⟨w.heap.size + 1, 3, none⟩ = some (.string ⟨#[]⟩) := cell_of hkp.2 rfl
  have fa : ∀ i, w2.frozen? ⟨w.heap.size + 1 + 1, i, none⟩ = false := fun i => frozen_of hkp.1
  have fr : ∀ i, w2.frozen? ⟨w.heap.size + 1, i, none⟩ = false := fun i => frozen_of hkp.2
  have HS : Hid (XStp pd lp g (doW w ⟨7, a, b, c, s, t⟩) w2) := hs
  have HP2 : Hid (w2.heap[w.heap.size + 1 + 1]? = some (.cells (ansCells 0 0 0 ⟨#[]⟩) 30 (0, 0)) ∧ w2.heap[w.heap.size + 1]? = some (.cells (ansCells 0 0 0 ⟨#[]⟩) 30 (0, 0))) := hkp
  clear hs hkp hcc
  go_wp2
  refine dom_ret (R := w.heap.size + 1) rfl (ans_row (by omega) HP2.out.1 HP2.out.2 (Chg.px (Chg.px (Chg.refl _ _))) _ _ _ _) ?_
  rw [EA.out.1, EA.out.2]
  exact ⟨rfl, XStp.fin H.out HS.out (ans_chg (Chg.px (Chg.px (Chg.refl _ _))) _ _ _ _)⟩

set_option maxHeartbeats 4000000 in
set_option maxRecDepth 4000 in
theorem dm_hold {w : World} {pd cap N : Nat} {lp : Option Addr} {S : RS} {g : GS} (h : MI w pd g lp cap) (hal : MAll N S g) (o : OpD) (hk : o.kind = 8) :
    Calls Try.prog 50 #[pt pd, opV o] w fun x w' => x = .returned (ansV (owed g o)) ∧ XStp pd lp (owesG g o).2 w w' := by
  have H : Hid (MI w pd g lp cap) := h
  have HL : Hid (MAll N S g) := hal
  have HM : Hid (GM (b0 g) (baseI g) g) := gm_of hal.rel
  obtain ⟨kind, a, b, c, s, t⟩ := o
  simp only at hk
  subst hk
  have H0 : Hid (MI (doW w ⟨8, a, b, c, s, t⟩) pd g lp cap) := MdAt.chg h (doW_chg _ _ []) (by simp)
  have EA : Hid (owed g ⟨8, a, b, c, s, t⟩ = ⟨0, 0, 0, ⟨#[]⟩⟩ ∧ (owesG g ⟨8, a, b, c, s, t⟩).2 = { g with held := g.n, thn := thnG g }) := by
    show _ ∧ _
    rw [owed, if_neg (show ¬ (8 : Int) = 10 by decide), ow8]
    exact ⟨rfl, rfl⟩
  clear h hal
  unfold opV
  go_enter Try.func50, Try.ntmps50
  go_wp2_with fail
  refine (mhold_calls H0.out HM.out).mono ?_
  rintro x w2 ⟨rfl, hst⟩
  have hs : XStp pd lp { g with held := g.n, thn := thnG g } (doW w ⟨8, a, b, c, s, t⟩) w2 := MStp.x hst ⟨rfl, rfl⟩
  have hkp := domW_keep H.out hs.chg
  have a0 : w2.cell? ⟨w.heap.size + 1 + 1, 0, none⟩ = some (.int .i64 0) := cell_of hkp.1 rfl
  have a1 : w2.cell? ⟨w.heap.size + 1 + 1, 1, none⟩ = some (.int .i64 0) := cell_of hkp.1 rfl
  have a2 : w2.cell? ⟨w.heap.size + 1 + 1, 2, none⟩ = some (.int .i64 0) := cell_of hkp.1 rfl
  have a3 : w2.cell? ⟨w.heap.size + 1 + 1, 3, none⟩ = some (.string ⟨#[]⟩) := cell_of hkp.1 rfl
  have r0 : w2.cell? ⟨w.heap.size + 1, 0, none⟩ = some (.int .i64 0) := cell_of hkp.2 rfl
  have r1 : w2.cell? ⟨w.heap.size + 1, 1, none⟩ = some (.int .i64 0) := cell_of hkp.2 rfl
  have r2 : w2.cell? ⟨w.heap.size + 1, 2, none⟩ = some (.int .i64 0) := cell_of hkp.2 rfl
  have r3 : w2.cell? ⟨w.heap.size + 1, 3, none⟩ = some (.string ⟨#[]⟩) := cell_of hkp.2 rfl
  have fa : ∀ i, w2.frozen? ⟨w.heap.size + 1 + 1, i, none⟩ = false := fun i => frozen_of hkp.1
  have fr : ∀ i, w2.frozen? ⟨w.heap.size + 1, i, none⟩ = false := fun i => frozen_of hkp.2
  have HS : Hid (XStp pd lp { g with held := g.n, thn := thnG g } (doW w ⟨8, a, b, c, s, t⟩) w2) := hs
  have HP2 : Hid (w2.heap[w.heap.size + 1 + 1]? = some (.cells (ansCells 0 0 0 ⟨#[]⟩) 30 (0, 0)) ∧ w2.heap[w.heap.size + 1]? = some (.cells (ansCells 0 0 0 ⟨#[]⟩) 30 (0, 0))) := hkp
  clear hs hkp hst
  go_wp2
  refine dom_ret (R := w.heap.size + 1) rfl (ans_row (by omega) HP2.out.1 HP2.out.2 (Chg.px (Chg.refl _ _)) _ _ _ _) ?_
  rw [EA.out.1, EA.out.2]
  exact ⟨rfl, XStp.fin H.out HS.out (ans_chg (Chg.px (Chg.refl _ _)) _ _ _ _)⟩

set_option maxHeartbeats 4000000 in
set_option maxRecDepth 4000 in
theorem dm_hget {w : World} {pd cap N : Nat} {lp : Option Addr} {S : RS} {g : GS} (h : MI w pd g lp cap) (hal : MAll N S g) (o : OpD) (hk : o.kind = 9) :
    Calls Try.prog 50 #[pt pd, opV o] w fun x w' => x = .returned (ansV (owed g o)) ∧ XStp pd lp (owesG g o).2 w w' := by
  have H : Hid (MI w pd g lp cap) := h
  have HL : Hid (MAll N S g) := hal
  have HM : Hid (GM (b0 g) (baseI g) g) := gm_of hal.rel
  obtain ⟨kind, a, b, c, s, t⟩ := o
  simp only at hk
  subst hk
  have H0 : Hid (MI (doW w ⟨9, a, b, c, s, t⟩) pd g lp cap) := MdAt.chg h (doW_chg _ _ []) (by simp)
  have EA : Hid (owed g ⟨9, a, b, c, s, t⟩ = ⟨(hgetG g a).2.1, (hgetG g a).1, 0, ⟨#[]⟩⟩ ∧ (owesG g ⟨9, a, b, c, s, t⟩).2 = (hgetG g a).2.2) := by
    show _ ∧ _
    rw [owed, if_neg (show ¬ (9 : Int) = 10 by decide), ow9]
    exact ⟨rfl, rfl⟩
  clear h hal
  unfold opV
  go_enter Try.func50, Try.ntmps50
  go_wp2_with fail
  refine (mhget_calls H0.out HM.out (heldIn_of HL.out.rel) a).mono ?_
  rintro x w2 ⟨rfl, hst⟩
  have hs : XStp pd lp (hgetG g a).2.2 (doW w ⟨9, a, b, c, s, t⟩) w2 := MStp.x hst (hget_kind _ _)
  have hkp := domW_keep H.out hs.chg
  have a0 : w2.cell? ⟨w.heap.size + 1 + 1, 0, none⟩ = some (.int .i64 0) := cell_of hkp.1 rfl
  have a1 : w2.cell? ⟨w.heap.size + 1 + 1, 1, none⟩ = some (.int .i64 0) := cell_of hkp.1 rfl
  have a2 : w2.cell? ⟨w.heap.size + 1 + 1, 2, none⟩ = some (.int .i64 0) := cell_of hkp.1 rfl
  have a3 : w2.cell? ⟨w.heap.size + 1 + 1, 3, none⟩ = some (.string ⟨#[]⟩) := cell_of hkp.1 rfl
  have r0 : w2.cell? ⟨w.heap.size + 1, 0, none⟩ = some (.int .i64 0) := cell_of hkp.2 rfl
  have r1 : w2.cell? ⟨w.heap.size + 1, 1, none⟩ = some (.int .i64 0) := cell_of hkp.2 rfl
  have r2 : w2.cell? ⟨w.heap.size + 1, 2, none⟩ = some (.int .i64 0) := cell_of hkp.2 rfl
  have r3 : w2.cell? ⟨w.heap.size + 1, 3, none⟩ = some (.string ⟨#[]⟩) := cell_of hkp.2 rfl
  have fa : ∀ i, w2.frozen? ⟨w.heap.size + 1 + 1, i, none⟩ = false := fun i => frozen_of hkp.1
  have fr : ∀ i, w2.frozen? ⟨w.heap.size + 1, i, none⟩ = false := fun i => frozen_of hkp.2
  have HS : Hid (XStp pd lp (hgetG g a).2.2 (doW w ⟨9, a, b, c, s, t⟩) w2) := hs
  have HP2 : Hid (w2.heap[w.heap.size + 1 + 1]? = some (.cells (ansCells 0 0 0 ⟨#[]⟩) 30 (0, 0)) ∧ w2.heap[w.heap.size + 1]? = some (.cells (ansCells 0 0 0 ⟨#[]⟩) 30 (0, 0))) := hkp
  clear hs hkp hst
  go_wp2
  refine dom_ret (R := w.heap.size + 1) rfl (ans_row (by omega) HP2.out.1 HP2.out.2 (Chg.px (Chg.px (Chg.refl _ _))) _ _ _ _) ?_
  rw [EA.out.1, EA.out.2]
  exact ⟨rfl, XStp.fin H.out HS.out (ans_chg (Chg.px (Chg.px (Chg.refl _ _))) _ _ _ _)⟩

set_option maxHeartbeats 4000000 in
set_option maxRecDepth 4000 in
theorem dm_hput {w : World} {pd cap N : Nat} {lp : Option Addr} {S : RS} {g : GS} (h : MI w pd g lp cap) (hal : MAll N S g) (o : OpD) (hk : o.kind = 13) :
    Calls Try.prog 50 #[pt pd, opV o] w fun x w' => x = .returned (ansV (owed g o)) ∧ XStp pd lp (owesG g o).2 w w' := by
  have H : Hid (MI w pd g lp cap) := h
  have HL : Hid (MAll N S g) := hal
  have HM : Hid (GM (b0 g) (baseI g) g) := gm_of hal.rel
  obtain ⟨kind, a, b, c, s, t⟩ := o
  simp only at hk
  subst hk
  have H0 : Hid (MI (doW w ⟨13, a, b, c, s, t⟩) pd g lp cap) := MdAt.chg h (doW_chg _ _ []) (by simp)
  have EA : Hid (owed g ⟨13, a, b, c, s, t⟩ = ⟨(hputG g a b).1, 0, 0, ⟨#[]⟩⟩ ∧ (owesG g ⟨13, a, b, c, s, t⟩).2 = (hputG g a b).2) := by
    show _ ∧ _
    rw [owed, if_neg (show ¬ (13 : Int) = 10 by decide), ow13]
    exact ⟨rfl, rfl⟩
  clear h hal
  unfold opV
  go_enter Try.func50, Try.ntmps50
  go_wp2_with fail
  refine (mhput_calls H0.out HM.out (heldIn_of HL.out.rel) a b).mono ?_
  rintro x w2 ⟨rfl, hst⟩
  have hs : XStp pd lp (hputG g a b).2 (doW w ⟨13, a, b, c, s, t⟩) w2 := MStp.x hst (hput_kind _ _ _)
  have hkp := domW_keep H.out hs.chg
  have a0 : w2.cell? ⟨w.heap.size + 1 + 1, 0, none⟩ = some (.int .i64 0) := cell_of hkp.1 rfl
  have a1 : w2.cell? ⟨w.heap.size + 1 + 1, 1, none⟩ = some (.int .i64 0) := cell_of hkp.1 rfl
  have a2 : w2.cell? ⟨w.heap.size + 1 + 1, 2, none⟩ = some (.int .i64 0) := cell_of hkp.1 rfl
  have a3 : w2.cell? ⟨w.heap.size + 1 + 1, 3, none⟩ = some (.string ⟨#[]⟩) := cell_of hkp.1 rfl
  have r0 : w2.cell? ⟨w.heap.size + 1, 0, none⟩ = some (.int .i64 0) := cell_of hkp.2 rfl
  have r1 : w2.cell? ⟨w.heap.size + 1, 1, none⟩ = some (.int .i64 0) := cell_of hkp.2 rfl
  have r2 : w2.cell? ⟨w.heap.size + 1, 2, none⟩ = some (.int .i64 0) := cell_of hkp.2 rfl
  have r3 : w2.cell? ⟨w.heap.size + 1, 3, none⟩ = some (.string ⟨#[]⟩) := cell_of hkp.2 rfl
  have fa : ∀ i, w2.frozen? ⟨w.heap.size + 1 + 1, i, none⟩ = false := fun i => frozen_of hkp.1
  have fr : ∀ i, w2.frozen? ⟨w.heap.size + 1, i, none⟩ = false := fun i => frozen_of hkp.2
  have HS : Hid (XStp pd lp (hputG g a b).2 (doW w ⟨13, a, b, c, s, t⟩) w2) := hs
  have HP2 : Hid (w2.heap[w.heap.size + 1 + 1]? = some (.cells (ansCells 0 0 0 ⟨#[]⟩) 30 (0, 0)) ∧ w2.heap[w.heap.size + 1]? = some (.cells (ansCells 0 0 0 ⟨#[]⟩) 30 (0, 0))) := hkp
  clear hs hkp hst
  go_wp2
  refine dom_ret (R := w.heap.size + 1) rfl (ans_row (by omega) HP2.out.1 HP2.out.2 (Chg.px (Chg.refl _ _)) _ _ _ _) ?_
  rw [EA.out.1, EA.out.2]
  exact ⟨rfl, XStp.fin H.out HS.out (ans_chg (Chg.px (Chg.refl _ _)) _ _ _ _)⟩

set_option maxHeartbeats 4000000 in
set_option maxRecDepth 4000 in
theorem dm_since {w : World} {pd cap N : Nat} {lp : Option Addr} {S : RS} {g : GS} (h : MI w pd g lp cap) (hal : MAll N S g) (o : OpD) (hk : o.kind = 14) :
    Calls Try.prog 50 #[pt pd, opV o] w fun x w' => x = .returned (ansV (owed g o)) ∧ XStp pd lp (owesG g o).2 w w' := by
  have H : Hid (MI w pd g lp cap) := h
  have HL : Hid (MAll N S g) := hal
  have HM : Hid (GM (b0 g) (baseI g) g) := gm_of hal.rel
  obtain ⟨kind, a, b, c, s, t⟩ := o
  simp only at hk
  subst hk
  have H0 : Hid (MI (doW w ⟨14, a, b, c, s, t⟩) pd g lp cap) := MdAt.chg h (doW_chg _ _ []) (by simp)
  have EA : Hid (owed g ⟨14, a, b, c, s, t⟩ = ⟨(sincedG g).2, (sincedG g).1, 0, ⟨#[]⟩⟩ ∧ (owesG g ⟨14, a, b, c, s, t⟩).2 = g) := by
    show _ ∧ _
    exact ⟨rfl, rfl⟩
  clear h hal
  unfold opV
  go_enter Try.func50, Try.ntmps50
  go_wp2_with fail
  refine (msince_calls H0.out HM.out (heldIn_of HL.out.rel)).mono ?_
  rintro x w2 ⟨rfl, hcc⟩
  have hs : XStp pd lp g (doW w ⟨14, a, b, c, s, t⟩) w2 := XStp.same H0.out hcc
  have hkp := domW_keep H.out hs.chg
  have a0 : w2.cell? ⟨w.heap.size + 1 + 1, 0, none⟩ = some (.int .i64 0) := cell_of hkp.1 rfl
  have a1 : w2.cell? ⟨w.heap.size + 1 + 1, 1, none⟩ = some (.int .i64 0) := cell_of hkp.1 rfl
  have a2 : w2.cell? ⟨w.heap.size + 1 + 1, 2, none⟩ = some (.int .i64 0) := cell_of hkp.1 rfl
  have a3 : w2.cell? ⟨w.heap.size + 1 + 1, 3, none⟩ = some (.string ⟨#[]⟩) := cell_of hkp.1 rfl
  have r0 : w2.cell? ⟨w.heap.size + 1, 0, none⟩ = some (.int .i64 0) := cell_of hkp.2 rfl
  have r1 : w2.cell? ⟨w.heap.size + 1, 1, none⟩ = some (.int .i64 0) := cell_of hkp.2 rfl
  have r2 : w2.cell? ⟨w.heap.size + 1, 2, none⟩ = some (.int .i64 0) := cell_of hkp.2 rfl
  have r3 : w2.cell? ⟨w.heap.size + 1, 3, none⟩ = some (.string ⟨#[]⟩) := cell_of hkp.2 rfl
  have fa : ∀ i, w2.frozen? ⟨w.heap.size + 1 + 1, i, none⟩ = false := fun i => frozen_of hkp.1
  have fr : ∀ i, w2.frozen? ⟨w.heap.size + 1, i, none⟩ = false := fun i => frozen_of hkp.2
  have HS : Hid (XStp pd lp g (doW w ⟨14, a, b, c, s, t⟩) w2) := hs
  have HP2 : Hid (w2.heap[w.heap.size + 1 + 1]? = some (.cells (ansCells 0 0 0 ⟨#[]⟩) 30 (0, 0)) ∧ w2.heap[w.heap.size + 1]? = some (.cells (ansCells 0 0 0 ⟨#[]⟩) 30 (0, 0))) := hkp
  clear hs hkp hcc
  go_wp2
  refine dom_ret (R := w.heap.size + 1) rfl (ans_row (by omega) HP2.out.1 HP2.out.2 (Chg.px (Chg.px (Chg.refl _ _))) _ _ _ _) ?_
  rw [EA.out.1, EA.out.2]
  exact ⟨rfl, XStp.fin H.out HS.out (ans_chg (Chg.px (Chg.px (Chg.refl _ _))) _ _ _ _)⟩

set_option maxHeartbeats 4000000 in
set_option maxRecDepth 4000 in
theorem dm_show {w : World} {pd cap N : Nat} {lp : Option Addr} {S : RS} {g : GS} (h : MI w pd g lp cap) (hal : MAll N S g) (o : OpD) (hk : o.kind = 10) :
    Calls Try.prog 50 #[pt pd, opV o] w fun x w' => x = .returned (ansV (owed g o)) ∧ XStp pd lp (owesG g o).2 w w' := by
  have H : Hid (MI w pd g lp cap) := h
  have HL : Hid (MAll N S g) := hal
  have HM : Hid (GM (b0 g) (baseI g) g) := gm_of hal.rel
  obtain ⟨kind, a, b, c, s, t⟩ := o
  simp only at hk
  subst hk
  have H0 : Hid (MI (doW w ⟨10, a, b, c, s, t⟩) pd g lp cap) := MdAt.chg h (doW_chg _ _ []) (by simp)
  have EA : Hid (owed g ⟨10, a, b, c, s, t⟩ = ⟨0, 0, 0, shownG g⟩ ∧ (owesG g ⟨10, a, b, c, s, t⟩).2 = g) := by
    show _ ∧ _
    have e : owesG g ⟨10, a, b, c, s, t⟩ = (⟨0, 0, 0, ⟨#[]⟩⟩, g) := by simp [owesG]
    rw [owed, if_pos rfl, e]
    exact ⟨rfl, rfl⟩
  clear h hal
  unfold opV
  go_enter Try.func50, Try.ntmps50
  go_wp2_with fail
  refine (mshow_calls H0.out HM.out (heldIn_of HL.out.rel) HL.out.rel.gok).mono ?_
  rintro x w2 ⟨rfl, hcc⟩
  have hs : XStp pd lp g (doW w ⟨10, a, b, c, s, t⟩) w2 := XStp.same H0.out hcc
  have hkp := domW_keep H.out hs.chg
  have a0 : w2.cell? ⟨w.heap.size + 1 + 1, 0, none⟩ = some (.int .i64 0) := cell_of hkp.1 rfl
  have a1 : w2.cell? ⟨w.heap.size + 1 + 1, 1, none⟩ = some (.int .i64 0) := cell_of hkp.1 rfl
  have a2 : w2.cell? ⟨w.heap.size + 1 + 1, 2, none⟩ = some (.int .i64 0) := cell_of hkp.1 rfl
  have a3 : w2.cell? ⟨w.heap.size + 1 + 1, 3, none⟩ = some (.string ⟨#[]⟩) := cell_of hkp.1 rfl
  have r0 : w2.cell? ⟨w.heap.size + 1, 0, none⟩ = some (.int .i64 0) := cell_of hkp.2 rfl
  have r1 : w2.cell? ⟨w.heap.size + 1, 1, none⟩ = some (.int .i64 0) := cell_of hkp.2 rfl
  have r2 : w2.cell? ⟨w.heap.size + 1, 2, none⟩ = some (.int .i64 0) := cell_of hkp.2 rfl
  have r3 : w2.cell? ⟨w.heap.size + 1, 3, none⟩ = some (.string ⟨#[]⟩) := cell_of hkp.2 rfl
  have fa : ∀ i, w2.frozen? ⟨w.heap.size + 1 + 1, i, none⟩ = false := fun i => frozen_of hkp.1
  have fr : ∀ i, w2.frozen? ⟨w.heap.size + 1, i, none⟩ = false := fun i => frozen_of hkp.2
  have HS : Hid (XStp pd lp g (doW w ⟨10, a, b, c, s, t⟩) w2) := hs
  have HP2 : Hid (w2.heap[w.heap.size + 1 + 1]? = some (.cells (ansCells 0 0 0 ⟨#[]⟩) 30 (0, 0)) ∧ w2.heap[w.heap.size + 1]? = some (.cells (ansCells 0 0 0 ⟨#[]⟩) 30 (0, 0))) := hkp
  clear hs hkp hcc
  go_wp2
  refine dom_ret (R := w.heap.size + 1) rfl (ans_row (by omega) HP2.out.1 HP2.out.2 (Chg.px (Chg.refl _ _)) _ _ _ _) ?_
  rw [EA.out.1, EA.out.2]
  exact ⟨rfl, XStp.fin H.out HS.out (ans_chg (Chg.px (Chg.refl _ _)) _ _ _ _)⟩

set_option maxHeartbeats 4000000 in
set_option maxRecDepth 4000 in
theorem dm_check {w : World} {pd cap N : Nat} {lp : Option Addr} {S : RS} {g : GS} (h : MI w pd g lp cap) (hal : MAll N S g) (o : OpD) (hk : o.kind = 11) :
    Calls Try.prog 50 #[pt pd, opV o] w fun x w' => x = .returned (ansV (owed g o)) ∧ XStp pd lp (owesG g o).2 w w' := by
  have H : Hid (MI w pd g lp cap) := h
  have HL : Hid (MAll N S g) := hal
  have HM : Hid (GM (b0 g) (baseI g) g) := gm_of hal.rel
  obtain ⟨kind, a, b, c, s, t⟩ := o
  simp only at hk
  subst hk
  have H0 : Hid (MI (doW w ⟨11, a, b, c, s, t⟩) pd g lp cap) := MdAt.chg h (doW_chg _ _ []) (by simp)
  have EA : Hid (owed g ⟨11, a, b, c, s, t⟩ = ⟨0, 1, 0, ⟨#[]⟩⟩ ∧ (owesG g ⟨11, a, b, c, s, t⟩).2 = g) := by
    show _ ∧ _
    exact ⟨rfl, rfl⟩
  clear h hal
  unfold opV
  go_enter Try.func50, Try.ntmps50
  go_wp2_with fail
  refine (mcheck_calls H0.out HM.out (heldIn_of HL.out.rel) HL.out.small HL.out.cnt HL.out.key).mono ?_
  rintro x w2 ⟨rfl, hcc⟩
  have hs : XStp pd lp g (doW w ⟨11, a, b, c, s, t⟩) w2 := XStp.same H0.out hcc
  have hkp := domW_keep H.out hs.chg
  have a0 : w2.cell? ⟨w.heap.size + 1 + 1, 0, none⟩ = some (.int .i64 0) := cell_of hkp.1 rfl
  have a1 : w2.cell? ⟨w.heap.size + 1 + 1, 1, none⟩ = some (.int .i64 0) := cell_of hkp.1 rfl
  have a2 : w2.cell? ⟨w.heap.size + 1 + 1, 2, none⟩ = some (.int .i64 0) := cell_of hkp.1 rfl
  have a3 : w2.cell? ⟨w.heap.size + 1 + 1, 3, none⟩ = some (.string ⟨#[]⟩) := cell_of hkp.1 rfl
  have r0 : w2.cell? ⟨w.heap.size + 1, 0, none⟩ = some (.int .i64 0) := cell_of hkp.2 rfl
  have r1 : w2.cell? ⟨w.heap.size + 1, 1, none⟩ = some (.int .i64 0) := cell_of hkp.2 rfl
  have r2 : w2.cell? ⟨w.heap.size + 1, 2, none⟩ = some (.int .i64 0) := cell_of hkp.2 rfl
  have r3 : w2.cell? ⟨w.heap.size + 1, 3, none⟩ = some (.string ⟨#[]⟩) := cell_of hkp.2 rfl
  have fa : ∀ i, w2.frozen? ⟨w.heap.size + 1 + 1, i, none⟩ = false := fun i => frozen_of hkp.1
  have fr : ∀ i, w2.frozen? ⟨w.heap.size + 1, i, none⟩ = false := fun i => frozen_of hkp.2
  have HS : Hid (XStp pd lp g (doW w ⟨11, a, b, c, s, t⟩) w2) := hs
  have HP2 : Hid (w2.heap[w.heap.size + 1 + 1]? = some (.cells (ansCells 0 0 0 ⟨#[]⟩) 30 (0, 0)) ∧ w2.heap[w.heap.size + 1]? = some (.cells (ansCells 0 0 0 ⟨#[]⟩) 30 (0, 0))) := hkp
  clear hs hkp hcc
  go_wp2
  refine dom_ret (R := w.heap.size + 1) rfl (ans_row (by omega) HP2.out.1 HP2.out.2 (Chg.px (Chg.refl _ _)) _ _ _ _) ?_
  rw [EA.out.1, EA.out.2]
  exact ⟨rfl, XStp.fin H.out HS.out (ans_chg (Chg.px (Chg.refl _ _)) _ _ _ _)⟩

set_option maxHeartbeats 4000000 in
set_option maxRecDepth 4000 in
theorem dm_none {w : World} {pd cap : Nat} {lp : Option Addr} {g : GS} (h : MI w pd g lp cap) (o : OpD) (k1 : ¬ o.kind = 1) (k2 : ¬ o.kind = 2) (k3 : ¬ o.kind = 3) (k4 : ¬ o.kind = 4) (k12 : ¬ o.kind = 12) (k5 : ¬ o.kind = 5) (k6 : ¬ o.kind = 6) (k7 : ¬ o.kind = 7) (k8 : ¬ o.kind = 8) (k9 : ¬ o.kind = 9) (k13 : ¬ o.kind = 13) (k14 : ¬ o.kind = 14) (k10 : ¬ o.kind = 10) (k11 : ¬ o.kind = 11) :
    Calls Try.prog 50 #[pt pd, opV o] w fun x w' => x = .returned (ansV (owed g o)) ∧ XStp pd lp (owesG g o).2 w w' := by
  have H : Hid (MI w pd g lp cap) := h
  have e : owesG g o = (⟨0, 0, 0, ⟨#[]⟩⟩, g) := by simp [owesG, k1, k2, k3, k4, k12, k5, k6, k7, k8, k9, k13, k14, k10, k11]
  have e2 : owed g o = ⟨0, 0, 0, ⟨#[]⟩⟩ := by rw [owed, if_neg k10, e]
  rw [e, e2]
  obtain ⟨kind, a, b, c, s, t⟩ := o
  simp only at k1 k2 k3 k4 k12 k5 k6 k7 k8 k9 k13 k14 k10 k11
  have j1 : (kind == 1) = false := by simpa using k1
  have j2 : (kind == 2) = false := by simpa using k2
  have j3 : (kind == 3) = false := by simpa using k3
  have j4 : (kind == 4) = false := by simpa using k4
  have j12 : (kind == 12) = false := by simpa using k12
  have j5 : (kind == 5) = false := by simpa using k5
  have j6 : (kind == 6) = false := by simpa using k6
  have j7 : (kind == 7) = false := by simpa using k7
  have j8 : (kind == 8) = false := by simpa using k8
  have j9 : (kind == 9) = false := by simpa using k9
  have j13 : (kind == 13) = false := by simpa using k13
  have j14 : (kind == 14) = false := by simpa using k14
  have j10 : (kind == 10) = false := by simpa using k10
  have j11 : (kind == 11) = false := by simpa using k11
  clear h e e2 k1 k2 k3 k4 k12 k5 k6 k7 k8 k9 k13 k14 k10 k11
  unfold opV
  go_enter Try.func50, Try.ntmps50
  go_wp2
  refine dom_ret (R := w.heap.size + 1) rfl (doW_r w ⟨kind, a, b, c, s, t⟩) ⟨rfl, XStp.same H.out (doW_chg w ⟨kind, a, b, c, s, t⟩ [])⟩

theorem dom_calls {w : World} {pd cap N : Nat} {lp : Option Addr} {S : RS} {g : GS} (h : MI w pd g lp cap) (hal : MAll N S g) (o : OpD) :
    Calls Try.prog 50 #[pt pd, opV o] w fun x w' => x = .returned (ansV (owed g o)) ∧ XStp pd lp (owesG g o).2 w w' := by
  by_cases k1 : o.kind = 1
  · exact dm_wrap h hal o k1
  by_cases k2 : o.kind = 2
  · exact dm_get h hal o k2
  by_cases k3 : o.kind = 3
  · exact dm_put h hal o k3
  by_cases k4 : o.kind = 4
  · exact dm_del h hal o k4
  by_cases k12 : o.kind = 12
  · exact dm_clear h hal o k12
  by_cases k5 : o.kind = 5
  · exact dm_len h hal o k5
  by_cases k6 : o.kind = 6
  · exact dm_name h hal o k6
  by_cases k7 : o.kind = 7
  · exact dm_hits h hal o k7
  by_cases k8 : o.kind = 8
  · exact dm_hold h hal o k8
  by_cases k9 : o.kind = 9
  · exact dm_hget h hal o k9
  by_cases k13 : o.kind = 13
  · exact dm_hput h hal o k13
  by_cases k14 : o.kind = 14
  · exact dm_since h hal o k14
  by_cases k10 : o.kind = 10
  · exact dm_show h hal o k10
  by_cases k11 : o.kind = 11
  · exact dm_check h hal o k11
  exact dm_none h o k1 k2 k3 k4 k12 k5 k6 k7 k8 k9 k13 k14 k10 k11
end Go.Proofs.Qxb6500371a.W
