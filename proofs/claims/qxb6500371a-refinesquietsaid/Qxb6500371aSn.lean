import Derived.Test.Qxb6500371aOw9
set_option linter.unusedVariables false
set_option linter.unusedSimpArgs false
namespace Go.Proofs.Qxb6500371a.W
open Go.RowKit Go.Maps

def evS (ev k : Int) : ByteArray := if ev = 80 then ⟨#[80]⟩ ++ itoa k else if ev = 68 then ⟨#[68]⟩ ++ itoa k else ⟨#[45]⟩
def logG (g : GS) (i : Nat) : ByteArray :=
  ((((((((⟨#[32, 108, 111, 103, 91, 112, 61]⟩ ++ itoa (g.puts i)) ++ ⟨#[32, 100, 61]⟩) ++ itoa (g.dels i)) ++ ⟨#[32, 110, 61]⟩) ++ itoa (wrap64 (g.puts i + g.dels i))) ++ ⟨#[32, 108, 97, 115, 116, 61]⟩) ++ evS (g.ev i) (g.evk i)) ++ ⟨#[93]⟩)
def limG : ByteArray := (⟨#[32, 108, 105, 109, 105, 116, 101, 100, 91, 109, 97, 120, 61]⟩ ++ itoa 2) ++ ⟨#[93]⟩
def cacG (c : CS) : ByteArray := (((⟨#[32, 99, 97, 99, 104, 101, 100, 91, 104, 105, 116, 115, 61]⟩ ++ itoa c.hits) ++ ⟨#[32, 107, 101, 121, 61]⟩) ++ keyS c) ++ ⟨#[93]⟩
def layG (g : GS) (t : ByteArray) (i : Nat) : ByteArray := if g.kind i = 1 then t ++ logG g i else (if g.kind i = 3 then t ++ limG else t) ++ cacG g.c
def laysG (g : GS) (t : ByteArray) : Nat → ByteArray
  | 0 => t
  | j + 1 => laysG g (layG g t j) j
def memT (m : MS) (t : ByteArray) : Nat → ByteArray × ByteArray
  | 0 => (t, ⟨#[]⟩)
  | j + 1 => if m.has j then ((memT m t j).1 ++ ((((memT m t j).2 ++ itoa j) ++ ⟨#[61]⟩) ++ itoa (m.val j)), ⟨#[32]⟩) else memT m t j

def headG (name n at_ since : ByteArray) : ByteArray :=
  ((((((((⟨#[110, 97, 109, 101, 61]⟩ ++ name) ++ ⟨#[32, 108, 97, 121, 101, 114, 115, 61]⟩) ++ n) ++ ⟨#[32, 104, 101, 108, 100, 61]⟩) ++ at_) ++ ⟨#[32, 115, 105, 110, 99, 101, 61]⟩) ++ since) ++ ⟨#[32, 124]⟩)
def atG (g : GS) : ByteArray := if g.held < 0 then ⟨#[45]⟩ else itoa g.held
def sinG (g : GS) : ByteArray := if (sincedG g).2 = 0 then itoa (sincedG g).1 else ⟨#[45]⟩
def tailG (m : MS) (t : ByteArray) : ByteArray := (memT m (t ++ ⟨#[32, 109, 101, 109, 91]⟩) 4).1 ++ ⟨#[93]⟩
def shownG (g : GS) : ByteArray := tailG g.m (laysG g (headG (namedG g) (itoa g.n) (atG g) (sinG g)) g.n)

structure GS.ok (g : GS) : Prop where
  n : g.n ≤ 4
  held : g.heldOk
  puts : ∀ i, i < 4 → i64ok (g.puts i)
  dels : ∀ i, i < 4 → i64ok (g.dels i)
  evk : ∀ i, i < 4 → i64ok (g.evk i)
  ev : ∀ i, i < 4 → g.ev i = 0 ∨ g.ev i = 80 ∨ g.ev i = 68
  c : g.c.ok
  m : g.m.ok

theorem evS_size (e k : Int) : (evS e k).size ≤ 30 := by
  have := itoa_size k
  have e1 : (⟨#[80]⟩ : ByteArray).size = 1 := rfl
  have e2 : (⟨#[68]⟩ : ByteArray).size = 1 := rfl
  have e3 : (⟨#[45]⟩ : ByteArray).size = 1 := rfl
  unfold evS
  split
  · simp only [ByteArray.size_append, e1]; omega
  · split
    · simp only [ByteArray.size_append, e2]; omega
    · rw [e3]; omega

theorem logG_size (g : GS) (i : Nat) : (logG g i).size ≤ 200 := by
  have h1 := itoa_size (g.puts i)
  have h2 := itoa_size (g.dels i)
  have h3 := itoa_size (wrap64 (g.puts i + g.dels i))
  have h4 := evS_size (g.ev i) (g.evk i)
  have e1 : (⟨#[32, 108, 111, 103, 91, 112, 61]⟩ : ByteArray).size = 7 := rfl
  have e2 : (⟨#[32, 100, 61]⟩ : ByteArray).size = 3 := rfl
  have e3 : (⟨#[32, 110, 61]⟩ : ByteArray).size = 3 := rfl
  have e4 : (⟨#[32, 108, 97, 115, 116, 61]⟩ : ByteArray).size = 6 := rfl
  have e5 : (⟨#[93]⟩ : ByteArray).size = 1 := rfl
  simp only [logG, ByteArray.size_append, e1, e2, e3, e4, e5]
  omega
theorem limG_size : limG.size ≤ 50 := by
  have h1 := itoa_size 2
  have e1 : (⟨#[32, 108, 105, 109, 105, 116, 101, 100, 91, 109, 97, 120, 61]⟩ : ByteArray).size = 13 := rfl
  have e5 : (⟨#[93]⟩ : ByteArray).size = 1 := rfl
  simp only [limG, ByteArray.size_append, e1, e5]
  omega
theorem cacG_size (c : CS) : (cacG c).size ≤ 120 := by
  have h1 := itoa_size c.hits
  have h2 := keyS_size c
  have e1 : (⟨#[32, 99, 97, 99, 104, 101, 100, 91, 104, 105, 116, 115, 61]⟩ : ByteArray).size = 13 := rfl
  have e2 : (⟨#[32, 107, 101, 121, 61]⟩ : ByteArray).size = 5 := rfl
  have e5 : (⟨#[93]⟩ : ByteArray).size = 1 := rfl
  simp only [cacG, ByteArray.size_append, e1, e2, e5]
  omega
theorem layG_size (g : GS) (t : ByteArray) (i : Nat) : (layG g t i).size ≤ t.size + 200 := by
  have h1 := logG_size g i
  have h2 := limG_size
  have h3 := cacG_size g.c
  unfold layG
  split
  · simp only [ByteArray.size_append]; omega
  · split <;> simp only [ByteArray.size_append] <;> omega
theorem memT_size (m : MS) (t : ByteArray) : ∀ j, (memT m t j).1.size ≤ t.size + 60 * j ∧ (memT m t j).2.size ≤ 1
  | 0 => by simp only [memT]; exact ⟨by omega, by decide⟩
  | j + 1 => by
    have ih := memT_size m t j
    have h1 := itoa_size j
    have h2 := itoa_size (m.val j)
    have e5 : (⟨#[61]⟩ : ByteArray).size = 1 := rfl
    have e6 : (⟨#[32]⟩ : ByteArray).size = 1 := rfl
    simp only [memT]
    split
    · simp only [ByteArray.size_append, e5, e6]; omega
    · omega
theorem namedG_size (g : GS) : (namedG g).size ≤ 6 := by
  unfold namedG
  split <;> decide
theorem sinced_ok (g : GS) : i64ok (sincedG g).1 := by
  unfold sincedG
  split
  · exact ⟨by decide, by decide⟩
  · split
    · exact ⟨by decide, by decide⟩
    · exact wrap64_ok _

theorem conv_80 (w : World) : (convert 70 9 (.slice (some ⟨w.heap.size, 0, none⟩) 1 1)).run Try.prog (w.alloc (.cells #[.int .u8 80] 5)) = .ok (.string ⟨#[80]⟩) (w.alloc (.cells #[.int .u8 80] 5)) := by
  have := conv_run w.heap.size 0 1 #[.int .u8 80] 5 [80] (w.alloc (.cells #[.int .u8 80] 5)) (heap_alloc_new _ _) rfl
  have e : bytesL [80] = ⟨#[80]⟩ := by decide
  rw [e] at this
  exact this
theorem conv_68 (w : World) : (convert 70 9 (.slice (some ⟨w.heap.size, 0, none⟩) 1 1)).run Try.prog (w.alloc (.cells #[.int .u8 68] 5)) = .ok (.string ⟨#[68]⟩) (w.alloc (.cells #[.int .u8 68] 5)) := by
  have := conv_run w.heap.size 0 1 #[.int .u8 68] 5 [68] (w.alloc (.cells #[.int .u8 68] 5)) (heap_alloc_new _ _) rfl
  have e : bytesL [68] = ⟨#[68]⟩ := by decide
  rw [e] at this
  exact this

set_option maxHeartbeats 8000000 in
set_option maxRecDepth 4000 in
theorem shown_calls {w : World} {pg : Nat} {g : GS} (h : GhAt w pg g) (ho : g.ok) :
    Calls Try.prog 47 #[pt pg] w fun x w' => x = .returned (.string (shownG g)) ∧ Chg [] w w' := by
  have H : Hid (GhAt w pg g) := h
  have HO : Hid g.ok := ho
  have hn := ho.n
  have c8 : w.cell? ⟨pg, 8, none⟩ = some (.int .i64 g.n) := cell_of h rfl
  have s1 := namedG_size g
  have s2 := itoa_size g.n
  have s3 := itoa_size g.held
  have s4 := itoa_size (sincedG g).1
  clear h ho
  go_enter Try.func47, Try.ntmps47
  go_wp2_with fail
  refine (named_calls H.out hn).mono ?_
  rintro x w1 ⟨rfl, hw1⟩
  obtain rfl : w = w1 := hw1.symm
  clear hw1
  go_wp2_with fail
  refine (itoa_calls g.n (by omega) (by omega) _).mono ?_
  rintro x w2 ⟨rfl, hc2⟩
  have c33 : w2.cell? ⟨pg, 33, none⟩ = some (.int .i64 g.held) := cell_of (H.out.chg hc2 (by simp)) rfl
  have HC2 : Hid (Chg [] w w2) := hc2
  clear hc2 c8
  go_upto_if 36 with fail
  go_cut [5] from 25 (fun s5 wx => s5 = .string (atG g) ∧ Chg [] w wx)
  case first =>
    rcases HO.out.held with he | ⟨q, hq, he⟩
    · have eat : Hid (atG g = ⟨#[45]⟩) := by show atG g = _; rw [atG, if_pos (by omega)]
      have hd : decide (0 ≤ g.held) = false := by simp; omega
      rw [hd]
      clear he hd
      go_wp2_with fail
      go_meet
      exact ⟨by rw [eat.out], HC2.out⟩
    · have eat : Hid (atG g = itoa g.held) := by show atG g = _; rw [atG, if_neg (by omega)]
      have hd : decide (0 ≤ g.held) = true := by simp; omega
      rw [hd]
      have hr : Hid (-9223372036854775808 ≤ g.held ∧ g.held ≤ 9223372036854775807) := ⟨by omega, by omega⟩
      clear he hd
      go_wp2_with fail
      refine (itoa_calls g.held hr.out.1 hr.out.2 _).mono ?_
      rintro x w3 ⟨rfl, hc3⟩
      have HC3 : Hid (Chg [] w w3) := HC2.out.trans hc3
      clear hc3
      go_wp2_with fail
      go_meet
      exact ⟨by rw [eat.out], HC3.out⟩
  case rest =>
  obtain ⟨rfl, hcw⟩ := hcut
  have sat : (atG g).size ≤ 21 := by
    unfold atG
    split
    · decide
    · exact itoa_size _
  have HCW : Hid (Chg [] w wc) := hcw
  clear hcw c33
  go_wp2_with fail
  refine (sinced_calls (H.out.chg HCW.out (by simp)) HO.out.held).mono ?_
  rintro x w3 ⟨rfl, hc3⟩
  have HC3 : Hid (Chg [] w w3) := HCW.out.trans hc3
  clear hc3
  go_upto_if 48 with fail
  go_cut [6] from 25 (fun s6 wx => s6 = .string (sinG g) ∧ Chg [] w wx)
  case first =>
    by_cases hs : (sincedG g).2 = 0
    · have e5 : Hid (sinG g = itoa (sincedG g).1) := by show sinG g = _; rw [sinG, if_pos hs]
      have hs' : ((sincedG g).2 == 0) = true := by simpa using hs
      have hok := sinced_ok g
      clear hs
      go_wp2_with fail
      refine (itoa_calls _ hok.1 hok.2 _).mono ?_
      rintro x w4 ⟨rfl, hc4⟩
      have HC4 : Hid (Chg [] w w4) := HC3.out.trans hc4
      clear hc4
      go_wp2_with fail
      go_meet
      exact ⟨by rw [e5.out], HC4.out⟩
    · have e5 : Hid (sinG g = ⟨#[45]⟩) := by show sinG g = _; rw [sinG, if_neg hs]
      have hs' : ((sincedG g).2 == 0) = false := by simpa using hs
      clear hs
      go_wp2_with fail
      go_meet
      exact ⟨by rw [e5.out], HC3.out⟩
  case rest =>
  obtain ⟨rfl, hcw⟩ := hcut
  have ssn : (sinG g).size ≤ 21 := by
    unfold sinG
    split
    · exact itoa_size _
    · decide
  clear HCW HC2 HC3 s3 s4
  rename_i w4
  have HC4 : Hid (Chg [] w wc) := hcw
  have d8 : wc.cell? ⟨pg, 8, none⟩ = some (.int .i64 g.n) := cell_of (H.out.chg hcw (by simp)) rfl
  clear hcw
  have s0 : (headG (namedG g) (itoa g.n) (atG g) (sinG g)).size ≤ 120 := by
    have e1 : (⟨#[110, 97, 109, 101, 61]⟩ : ByteArray).size = 5 := rfl
    have e2 : (⟨#[32, 108, 97, 121, 101, 114, 115, 61]⟩ : ByteArray).size = 8 := rfl
    have e3 : (⟨#[32, 104, 101, 108, 100, 61]⟩ : ByteArray).size = 6 := rfl
    have e4 : (⟨#[32, 115, 105, 110, 99, 101, 61]⟩ : ByteArray).size = 7 := rfl
    have e5 : (⟨#[32, 124]⟩ : ByteArray).size = 2 := rfl
    simp only [headG, ByteArray.size_append, e1, e2, e3, e4, e5]
    omega
  go_wp2_with fail
  go_loopw [9, 10] (fun v9 v10 wr => ∃ (j : Nat) (t : ByteArray), j ≤ g.n ∧ v10 = .int .i64 ((j : Int) - 1) ∧ v9 = .string t ∧ laysG g t j = laysG g (headG (namedG g) (itoa g.n) (atG g) (sinG g)) g.n ∧ t.size ≤ 120 + 200 * (4 - j) ∧ Chg [] w wr) (fun _ v10 _ => (intOf v10 + 1).toNat)
  case atStart => exact ⟨g.n, headG (namedG g) (itoa g.n) (atG g) (sinG g), by omega, rfl, rfl, rfl, by omega, HC4.out⟩
  case round =>
    obtain ⟨j, t, hj, rfl, rfl, hb, hts, hc⟩ := hrel
    have HC : Hid (Chg [] w wr) := hc
    have HB : Hid (laysG g t j = laysG g (headG (namedG g) (itoa g.n) (atG g) (sinG g)) g.n) := hb
    have HG : Hid (GhAt wr pg g) := H.out.chg hc (by simp)
    have hts2 : t.size ≤ 1000 := by omega
    clear hb hc s1 s2 s0 sat ssn d8 HC4
    cases j with
    | succ i =>
      have hi : i < 4 := by omega
      have ls := layG_size g t i
      have hts3 : Hid ((layG g t i).size ≤ 120 + 200 * (4 - i)) := by show (layG g t i).size ≤ _; omega
      clear ls hts
      have e : ((i + 1 : Nat) : Int) - 1 = i := by omega
      rw [e]
      clear e
      have ck : wr.cell? ⟨pg, 9 + i, none⟩ = some (.int .i64 (g.kind i)) := cell_of HG.out (gh_kind g hi)
      by_cases hk : g.kind i = 1
      · rw [hk] at ck
        have cp : wr.cell? ⟨pg, 13 + i, none⟩ = some (.int .i64 (g.puts i)) := cell_of HG.out (gh_puts g hi)
        have EL : Hid (layG g t i = t ++ logG g i) := by show layG g t i = _; rw [layG, if_pos hk]
        go_wp2_with fail
        refine (itoa_calls (g.puts i) (HO.out.puts i hi).1 (HO.out.puts i hi).2 _).mono ?_
        rintro x w5 ⟨rfl, hc5⟩
        have HC5 : Hid (Chg [] wr w5) := hc5
        have cd : w5.cell? ⟨pg, 17 + i, none⟩ = some (.int .i64 (g.dels i)) := cell_of (HG.out.chg hc5 (by simp)) (gh_dels g hi)
        clear hc5 ck cp hk
        go_wp2_with fail
        refine (itoa_calls (g.dels i) (HO.out.dels i hi).1 (HO.out.dels i hi).2 _).mono ?_
        rintro x w6 ⟨rfl, hc6⟩
        have HC6 : Hid (Chg [] wr w6) := HC5.out.trans hc6
        clear hc6 cd
        go_upto_region 17 with fail
        have kP : ∀ w1, Chg [] w6 w1 → w1.cell? ⟨pg, 13 + i, none⟩ = some (.int .i64 (g.puts i)) := fun w1 hC => cell_of (HG.out.chg (HC6.out.trans hC) (by simp)) (gh_puts g hi)
        have kD : ∀ w1, Chg [] w6 w1 → w1.cell? ⟨pg, 17 + i, none⟩ = some (.int .i64 (g.dels i)) := fun w1 hC => cell_of (HG.out.chg (HC6.out.trans hC) (by simp)) (gh_dels g hi)
        refine region_class (Chg [] w6) (by kernel_rfl) (by kernel_rfl) ((Chg.refl _ _).drewN 1) ?_
        refine quiet_val (pt pg) rfl (fun w1 hC => by first | (simp [go_sem]; done) | (simp [go_sem, ↓IntWalk.iteOmega]; done)) ?_
        go_simp
        refine quiet_val (.int .i64 i) rfl (fun w1 hC => by first | (simp [go_sem]; done) | (simp [go_sem, ↓IntWalk.iteOmega]; done)) ?_
        go_simp
        refine quiet_val (pt pg) rfl (fun w1 hC => by first | (simp [go_sem]; done) | (simp [go_sem, ↓IntWalk.iteOmega]; done)) ?_
        go_simp
        refine quiet_val (.pointer (some ⟨pg, 13, none⟩)) rfl (fun w1 hC => by first | (simp [go_sem]; done) | (simp [go_sem, ↓IntWalk.iteOmega]; done)) ?_
        go_simp
        refine quiet_val (.pointer (some ⟨pg, 13 + i, none⟩)) rfl (fun w1 hC => by first | (simp [go_sem]; done) | (simp [go_sem, ↓IntWalk.iteOmega]; done)) ?_
        go_simp
        refine quiet_val (.int .i64 (g.puts i)) rfl (fun w1 hC => by have := kP w1 hC; simp [go_sem, this]) ?_
        go_simp
        refine quiet_val (pt pg) rfl (fun w1 hC => by first | (simp [go_sem]; done) | (simp [go_sem, ↓IntWalk.iteOmega]; done)) ?_
        go_simp
        refine quiet_val (.int .i64 i) rfl (fun w1 hC => by first | (simp [go_sem]; done) | (simp [go_sem, ↓IntWalk.iteOmega]; done)) ?_
        go_simp
        refine quiet_val (pt pg) rfl (fun w1 hC => by first | (simp [go_sem]; done) | (simp [go_sem, ↓IntWalk.iteOmega]; done)) ?_
        go_simp
        refine quiet_val (.pointer (some ⟨pg, 17, none⟩)) rfl (fun w1 hC => by first | (simp [go_sem]; done) | (simp [go_sem, ↓IntWalk.iteOmega]; done)) ?_
        go_simp
        refine quiet_val (.pointer (some ⟨pg, 17 + i, none⟩)) rfl (fun w1 hC => by first | (simp [go_sem]; done) | (simp [go_sem, ↓IntWalk.iteOmega]; done)) ?_
        go_simp
        refine quiet_val (.int .i64 (g.dels i)) rfl (fun w1 hC => by have := kD w1 hC; simp [go_sem, this]) ?_
        go_simp
        refine quiet_val (.int .i64 (wrap64 (g.puts i + g.dels i))) rfl (fun w1 hC => by simp [go_sem]; rw [IntKind.wrap_i64]; unfold wrap64; omega) ?_
        go_simp
        refine quiet_call (.string (itoa (wrap64 (g.puts i + g.dels i)))) 44 #[.int .i64 (wrap64 (g.puts i + g.dels i))] rfl (fun w1 hC => by simp [go_sem]) (fun w1 hC => (itoa_calls _ (wrap64_ok _).1 (wrap64_ok _).2 w1).mono fun e w2 he => ⟨he.1, hC.trans he.2⟩) ?_
        go_simp
        refine quiet_val (.string (itoa (wrap64 (g.puts i + g.dels i)))) rfl (fun w1 hC => by first | (simp [go_sem]; done) | (simp [go_sem, ↓IntWalk.iteOmega]; done)) ?_
        go_simp
        refine wpQuiet_nil ?_
        intro w7 hw7
        have HC7 : Hid (Chg [] wr w7) := HC6.out.trans hw7
        have ce : w7.cell? ⟨pg, 21 + i, none⟩ = some (.int .i64 (g.ev i)) := cell_of (HG.out.chg HC7.out (by simp)) (gh_ev g hi)
        have cek : w7.cell? ⟨pg, 25 + i, none⟩ = some (.int .i64 (g.evk i)) := cell_of (HG.out.chg HC7.out (by simp)) (gh_evk g hi)
        clear hw7 kP kD
        have q1 := itoa_size (g.puts i)
        have q2 := itoa_size (g.dels i)
        have q3 := itoa_size (wrap64 (g.puts i + g.dels i))
        have q4 := itoa_size (g.evk i)
        have hok := HO.out.evk i hi
        rcases HO.out.ev i hi with he | he | he
        · rw [he] at ce
          have EV : Hid (evS (g.ev i) (g.evk i) = ⟨#[45]⟩) := by show evS _ _ = _; rw [he]; rfl
          clear he
          go_wp2
          refine ⟨⟨i, layG g t i, by omega, rfl, ?_, ?_, hts3.out, HC.out.trans HC7.out⟩, by simp [intOf]⟩
          · rw [EL.out, logG, EV.out]
          · rw [← HB.out]; rfl
        · have he2 : Hid (g.ev i = 80) := he
          rw [he] at ce
          have EV : Hid (evS (g.ev i) (g.evk i) = ⟨#[80]⟩ ++ itoa (g.evk i)) := by show evS _ _ = _; rw [he]; rfl
          clear he
          go_wp2_with fail
          refine (itoa_calls _ hok.1 hok.2 _).mono ?_
          rintro x w8 ⟨rfl, hc8⟩
          have HC8 : Hid (Chg [] wr w8) := HC7.out.trans hc8
          have ce' : w8.cell? ⟨pg, 21 + i, none⟩ = some (.int .i64 80) := by rw [← he2.out]; exact cell_of (HG.out.chg HC8.out (by simp)) (gh_ev g hi)
          have hcv : (convert 70 9 (.slice (some ⟨w8.heap.size, 0, none⟩) 1 1)).run Try.prog (w8.alloc (.cells #[.int .u8 80] 5)) = .ok (.string ⟨#[80]⟩) (w8.alloc (.cells #[.int .u8 80] 5)) := conv_80 w8
          have e1 : (⟨#[80]⟩ : ByteArray).size = 1 := rfl
          clear hc8 ce cek
          go_wp2
          refine ⟨⟨i, layG g t i, by omega, rfl, ?_, ?_, hts3.out, HC.out.trans (HC8.out.alloc _)⟩, by simp [intOf]⟩
          · rw [EL.out, logG, EV.out]
          · rw [← HB.out]; rfl
        · have he2 : Hid (g.ev i = 68) := he
          rw [he] at ce
          have EV : Hid (evS (g.ev i) (g.evk i) = ⟨#[68]⟩ ++ itoa (g.evk i)) := by show evS _ _ = _; rw [he]; rfl
          clear he
          go_wp2_with fail
          refine (itoa_calls _ hok.1 hok.2 _).mono ?_
          rintro x w8 ⟨rfl, hc8⟩
          have HC8 : Hid (Chg [] wr w8) := HC7.out.trans hc8
          have ce' : w8.cell? ⟨pg, 21 + i, none⟩ = some (.int .i64 68) := by rw [← he2.out]; exact cell_of (HG.out.chg HC8.out (by simp)) (gh_ev g hi)
          have hcv : (convert 70 9 (.slice (some ⟨w8.heap.size, 0, none⟩) 1 1)).run Try.prog (w8.alloc (.cells #[.int .u8 68] 5)) = .ok (.string ⟨#[68]⟩) (w8.alloc (.cells #[.int .u8 68] 5)) := conv_68 w8
          have e1 : (⟨#[68]⟩ : ByteArray).size = 1 := rfl
          clear hc8 ce cek
          go_wp2
          refine ⟨⟨i, layG g t i, by omega, rfl, ?_, ?_, hts3.out, HC.out.trans (HC8.out.alloc _)⟩, by simp [intOf]⟩
          · rw [EL.out, logG, EV.out]
          · rw [← HB.out]; rfl
      · have hk' : (g.kind i == 1) = false := by simpa using hk
        have q5 := itoa_size 2
        have q6 := itoa_size g.c.hits
        have q7 := itoa_size g.c.key
        have q8 := itoa_size g.c.val
        by_cases hk3 : g.kind i = 3
        · have EL : Hid (layG g t i = (t ++ limG) ++ cacG g.c) := by show layG g t i = _; rw [layG, if_neg hk, if_pos hk3]
          have hk3' : (g.kind i == 3) = true := by simpa using hk3
          clear hk hk3
          go_wp2_with fail
          refine (itoa_calls 2 (by omega) (by omega) _).mono ?_
          rintro x w5 ⟨rfl, hc5⟩
          have HC5 : Hid (Chg [] wr w5) := hc5
          have ch : w5.cell? ⟨pg, 29, none⟩ = some (.int .i64 g.c.hits) := cell_of (HG.out.chg hc5 (by simp)) rfl
          clear hc5 ck
          go_wp2_with fail
          refine (itoa_calls g.c.hits HO.out.c.1.1 HO.out.c.1.2 _).mono ?_
          rintro x w6 ⟨rfl, hc6⟩
          have HC6 : Hid (Chg [] wr w6) := HC5.out.trans hc6
          have cf : w6.cell? ⟨pg, 30, none⟩ = some (.bool g.c.full) := cell_of (HG.out.chg HC6.out (by simp)) rfl
          have cy : w6.cell? ⟨pg, 31, none⟩ = some (.int .i64 g.c.key) := cell_of (HG.out.chg HC6.out (by simp)) rfl
          clear hc6 ch
          cases hf : g.c.full with
          | false =>
            rw [hf] at cf
            have EK : Hid (keyS g.c = ⟨#[45]⟩) := by show keyS g.c = _; rw [keyS, hf]; rfl
            clear hf
            go_wp2
            refine ⟨⟨i, layG g t i, by omega, rfl, ?_, ?_, hts3.out, HC.out.trans HC6.out⟩, by simp [intOf]⟩
            · rw [EL.out, cacG, EK.out]; rfl
            · rw [← HB.out]; rfl
          | true =>
            rw [hf] at cf
            have EK : Hid (keyS g.c = (itoa g.c.key ++ ⟨#[58]⟩) ++ itoa g.c.val) := by show keyS g.c = _; rw [keyS, hf]; rfl
            clear hf
            go_wp2_with fail
            refine (itoa_calls g.c.key HO.out.c.2.1.1 HO.out.c.2.1.2 _).mono ?_
            rintro x w7 ⟨rfl, hc7⟩
            have HC7 : Hid (Chg [] wr w7) := HC6.out.trans hc7
            have cv : w7.cell? ⟨pg, 32, none⟩ = some (.int .i64 g.c.val) := cell_of (HG.out.chg HC7.out (by simp)) rfl
            clear hc7 cf cy
            go_wp2_with fail
            refine (itoa_calls g.c.val HO.out.c.2.2.1 HO.out.c.2.2.2 _).mono ?_
            rintro x w8 ⟨rfl, hc8⟩
            have HC8 : Hid (Chg [] wr w8) := HC7.out.trans hc8
            clear hc8 cv
            go_wp2
            refine ⟨⟨i, layG g t i, by omega, rfl, ?_, ?_, hts3.out, HC.out.trans HC8.out⟩, by simp [intOf]⟩
            · rw [EL.out, cacG, EK.out]; rfl
            · rw [← HB.out]; rfl
        · have EL : Hid (layG g t i = t ++ cacG g.c) := by show layG g t i = _; rw [layG, if_neg hk, if_neg hk3]
          have hk3' : (g.kind i == 3) = false := by simpa using hk3
          have HC5 : Hid (Chg [] wr wr) := Chg.refl _ _
          have ch : wr.cell? ⟨pg, 29, none⟩ = some (.int .i64 g.c.hits) := cell_of HG.out rfl
          clear hk hk3
          go_wp2_with fail
          refine (itoa_calls g.c.hits HO.out.c.1.1 HO.out.c.1.2 _).mono ?_
          rintro x w6 ⟨rfl, hc6⟩
          have HC6 : Hid (Chg [] wr w6) := HC5.out.trans hc6
          have cf : w6.cell? ⟨pg, 30, none⟩ = some (.bool g.c.full) := cell_of (HG.out.chg HC6.out (by simp)) rfl
          have cy : w6.cell? ⟨pg, 31, none⟩ = some (.int .i64 g.c.key) := cell_of (HG.out.chg HC6.out (by simp)) rfl
          clear hc6 ch
          cases hf : g.c.full with
          | false =>
            rw [hf] at cf
            have EK : Hid (keyS g.c = ⟨#[45]⟩) := by show keyS g.c = _; rw [keyS, hf]; rfl
            clear hf
            go_wp2
            refine ⟨⟨i, layG g t i, by omega, rfl, ?_, ?_, hts3.out, HC.out.trans HC6.out⟩, by simp [intOf]⟩
            · rw [EL.out, cacG, EK.out]
            · rw [← HB.out]; rfl
          | true =>
            rw [hf] at cf
            have EK : Hid (keyS g.c = (itoa g.c.key ++ ⟨#[58]⟩) ++ itoa g.c.val) := by show keyS g.c = _; rw [keyS, hf]; rfl
            clear hf
            go_wp2_with fail
            refine (itoa_calls g.c.key HO.out.c.2.1.1 HO.out.c.2.1.2 _).mono ?_
            rintro x w7 ⟨rfl, hc7⟩
            have HC7 : Hid (Chg [] wr w7) := HC6.out.trans hc7
            have cv : w7.cell? ⟨pg, 32, none⟩ = some (.int .i64 g.c.val) := cell_of (HG.out.chg HC7.out (by simp)) rfl
            clear hc7 cf cy
            go_wp2_with fail
            refine (itoa_calls g.c.val HO.out.c.2.2.1 HO.out.c.2.2.2 _).mono ?_
            rintro x w8 ⟨rfl, hc8⟩
            have HC8 : Hid (Chg [] wr w8) := HC7.out.trans hc8
            clear hc8 cv
            go_wp2
            refine ⟨⟨i, layG g t i, by omega, rfl, ?_, ?_, hts3.out, HC.out.trans HC8.out⟩, by simp [intOf]⟩
            · rw [EL.out, cacG, EK.out]
            · rw [← HB.out]; rfl
    | zero =>
      have hneg : ((0 : Nat) : Int) - 1 = -1 := by omega
      rw [hneg]
      have HT : Hid (t = laysG g (headG (namedG g) (itoa g.n) (atG g) (sinG g)) g.n) := HB.out
      clear hneg hts
      go_wp2_with fail
      have e7 : (⟨#[32, 109, 101, 109, 91]⟩ : ByteArray).size = 5 := rfl
      go_loopw [9, 21, 22] (fun v9 v21 v22 wq => ∃ j : Nat, j ≤ 4 ∧ v22 = .int .i64 j ∧ v9 = .string (memT g.m (t ++ ⟨#[32, 109, 101, 109, 91]⟩) j).1 ∧ v21 = .string (memT g.m (t ++ ⟨#[32, 109, 101, 109, 91]⟩) j).2 ∧ Chg [] w wq) (fun _ _ v22 _ => (4 - intOf v22).toNat)
      case atStart => exact ⟨0, by omega, rfl, rfl, rfl, HC.out⟩
      case round =>
        obtain ⟨j, hj, rfl, rfl, rfl, hcq⟩ := hrel
        have HCq : Hid (Chg [] w wr) := hcq
        have hsz := memT_size g.m (t ++ ⟨#[32, 109, 101, 109, 91]⟩) j
        rw [ByteArray.size_append, e7] at hsz
        have z1 : (memT g.m (t ++ ⟨#[32, 109, 101, 109, 91]⟩) j).1.size ≤ 1400 := by omega
        have z2 : (memT g.m (t ++ ⟨#[32, 109, 101, 109, 91]⟩) j).2.size ≤ 1 := hsz.2
        clear hsz hcq
        by_cases hj4 : j < 4
        · have cj : wr.cell? ⟨pg, j, none⟩ = some (.bool (g.m.has j)) := cell_of (H.out.chg HCq.out (by simp)) (gh_has g hj4)
          have i1 := itoa_size j
          have i2 := itoa_size (g.m.val j)
          cases hh : g.m.has j with
          | true =>
            rw [hh] at cj
            have e : memT g.m (t ++ ⟨#[32, 109, 101, 109, 91]⟩) (j + 1) = ((memT g.m (t ++ ⟨#[32, 109, 101, 109, 91]⟩) j).1 ++ ((((memT g.m (t ++ ⟨#[32, 109, 101, 109, 91]⟩) j).2 ++ itoa j) ++ ⟨#[61]⟩) ++ itoa (g.m.val j)), ⟨#[32]⟩) := by rw [memT, if_pos hh]
            have E : Hid (memT g.m (t ++ ⟨#[32, 109, 101, 109, 91]⟩) (j + 1) = ((memT g.m (t ++ ⟨#[32, 109, 101, 109, 91]⟩) j).1 ++ ((((memT g.m (t ++ ⟨#[32, 109, 101, 109, 91]⟩) j).2 ++ itoa j) ++ ⟨#[61]⟩) ++ itoa (g.m.val j)), ⟨#[32]⟩)) := e
            clear e
            generalize memT g.m (t ++ ⟨#[32, 109, 101, 109, 91]⟩) j = mt at *
            go_wp2_with fail
            refine (itoa_calls j (by omega) (by omega) _).mono ?_
            rintro x w5 ⟨rfl, hc5⟩
            have HC5 : Hid (Chg [] w w5) := HCq.out.trans hc5
            have cv : w5.cell? ⟨pg, 4 + j, none⟩ = some (.int .i64 (g.m.val j)) := cell_of (H.out.chg HC5.out (by simp)) (gh_val g hj4)
            clear hc5 cj
            go_wp2_with fail
            refine (itoa_calls (g.m.val j) (HO.out.m j hj4).1 (HO.out.m j hj4).2 _).mono ?_
            rintro x w6 ⟨rfl, hc6⟩
            have HC6 : Hid (Chg [] w w6) := HC5.out.trans hc6
            clear hc6 cv
            go_wp2
            exact ⟨⟨j + 1, by omega, by simp, by rw [E.out], by rw [E.out], HC6.out⟩, by simp [intOf]; omega⟩
          | false =>
            rw [hh] at cj
            have E : Hid (memT g.m (t ++ ⟨#[32, 109, 101, 109, 91]⟩) (j + 1) = memT g.m (t ++ ⟨#[32, 109, 101, 109, 91]⟩) j) := by
              show memT _ _ _ = _
              rw [memT, if_neg (by simp [hh])]
            generalize memT g.m (t ++ ⟨#[32, 109, 101, 109, 91]⟩) j = mt at *
            go_wp2
            exact ⟨⟨j + 1, by omega, by simp, by rw [E.out], by rw [E.out], HCq.out⟩, by simp [intOf]; omega⟩
        · have E : Hid (j = 4) := by show j = 4; omega
          have ef : Hid (shownG g = (memT g.m (t ++ ⟨#[32, 109, 101, 109, 91]⟩) j).1 ++ ⟨#[93]⟩) := by
            show shownG g = _
            rw [shownG, tailG, ← HT.out, E.out]
          generalize memT g.m (t ++ ⟨#[32, 109, 101, 109, 91]⟩) j = mt at *
          go_wp2
          go_ret
          exact ⟨by rw [ef.out]; rfl, HCq.out⟩
end Go.Proofs.Qxb6500371a.W
