import Derived.Test.Qxb6500371aMd6
import Derived.Deep.Cut
set_option linter.unusedVariables false
set_option linter.unusedSimpArgs false
namespace Go.Proofs.Qxb6500371a.W
open Go.RowKit Go.Maps

def head1 (name n at_ : ByteArray) : ByteArray := ((((⟨#[110, 97, 109, 101, 61]⟩ ++ name) ++ ⟨#[32, 108, 97, 121, 101, 114, 115, 61]⟩) ++ n) ++ ⟨#[32, 104, 101, 108, 100, 61]⟩) ++ at_
theorem lit_held : (⟨#[32, 104, 101, 108, 100, 61, 45]⟩ : ByteArray) = ⟨#[32, 104, 101, 108, 100, 61]⟩ ++ ⟨#[45]⟩ := by decide
theorem lit_since : (⟨#[32, 115, 105, 110, 99, 101, 61, 45, 32, 124]⟩ : ByteArray) = ⟨#[32, 115, 105, 110, 99, 101, 61]⟩ ++ (⟨#[45]⟩ ++ ⟨#[32, 124]⟩) := by decide
theorem lit_dash : (⟨#[45, 93]⟩ : ByteArray) = ⟨#[45]⟩ ++ ⟨#[93]⟩ := by decide

def logsT (g : GS) (b : Nat) (t : ByteArray) : Nat → ByteArray
  | 0 => t
  | j + 1 => logsT g b (t ++ logG g (b + j)) j

/-- The layers' text: the logs, then the base. -/
theorem lays_eq {b : Nat} {base : Int} {g : GS} (hm : GM b base g) : ∀ (j : Nat) (t : ByteArray), b + j ≤ g.n → laysG g t (b + j) = (let u := logsT g b t j; if b = 1 then (if base = 3 then u ++ limG else u) ++ cacG g.c else u)
  | 0, t, hj => by
    rcases hm.bb with ⟨rfl, _, _⟩ | ⟨rfl, h1, h2, h3⟩
    · rfl
    · show layG g t 0 = _
      rw [layG, if_neg (by omega), h2]
      simp [logsT]
  | j + 1, t, hj => by
    show laysG g (layG g t (b + j)) (b + j) = _
    rw [lays_eq hm j _ (by omega), layG, if_pos (hm.logs (b + j) (by omega) (by omega))]
    rfl

set_option maxHeartbeats 8000000 in
set_option maxRecDepth 4000 in
theorem mshow_calls {w : World} {pd b cap : Nat} {base : Int} {g : GS} {lp : Option Addr} (h : MdAt w pd b base g lp cap) (hm : GM b base g) (hh : heldIn g) (ho : g.ok) :
    Calls Try.prog 71 #[pt pd] w fun x w' => x = .returned (.string (shownG g)) ∧ Chg [] w w' := by
  have H : Hid (MdAt w pd b base g lp cap) := h
  have HM : Hid (GM b base g) := hm
  have HH : Hid (heldIn g) := hh
  have HO : Hid g.ok := ho
  have hn := ho.n
  have hbn : b ≤ g.n := by rcases hm.bb with ⟨h1, _⟩ | ⟨h1, h2, _⟩ <;> omega
  have c14 : w.cell? ⟨pd, 14, none⟩ = some (.int .i64 g.held) := cell_of h.row rfl
  have s1 := namedG_size g
  have s2 := itoa_size g.n
  clear h hm hh ho
  go_enter Try.func71, Try.ntmps71
  go_wp2_with fail
  refine (mname_calls H.out HM.out).mono ?_
  rintro x w1 ⟨rfl, hw1⟩
  obtain rfl : w = w1 := hw1.symm
  clear hw1
  go_wp2_with fail
  refine (layers_calls H.out HM.out).mono ?_
  rintro x w1 ⟨rfl, hw1⟩
  obtain rfl : w = w1 := hw1.symm
  clear hw1
  go_wp2_with fail
  refine (itoa_calls g.n (by omega) (by omega) _).mono ?_
  rintro x w2 ⟨rfl, hc2⟩
  have HC2 : Hid (Chg [] w w2) := hc2
  have k14 : w2.cell? ⟨pd, 14, none⟩ = some (.int .i64 g.held) := cell_of (hc2.keep H.out.row (by simp)) rfl
  clear hc2 c14
  have hrr : Hid (-9223372036854775808 ≤ g.held ∧ g.held ≤ 9223372036854775807) := by
    show _ ∧ _
    rcases HH.out with e | ⟨q, h1, h2⟩ <;> constructor <;> omega
  have s3 := itoa_size g.held
  go_upto_if 41 with fail
  go_cut [6] from 25 (fun s6 wx => s6 = .string (head1 (namedG g) (itoa g.n) (atG g)) ∧ Chg [] w wx)
  case first =>
    by_cases he : g.held < 0
    · have eat : Hid (atG g = ⟨#[45]⟩) := by show atG g = _; rw [atG, if_pos he]
      have hd : decide (0 ≤ g.held) = false := by simp; omega
      rw [hd]
      clear he hd
      go_wp2_with fail
      go_meet
      refine ⟨?_, HC2.out⟩
      rw [eat.out, head1, lit_held]
      simp only [ByteArray.append_assoc]
    · have eat : Hid (atG g = itoa g.held) := by show atG g = _; rw [atG, if_neg he]
      have hd : decide (0 ≤ g.held) = true := by simp; omega
      rw [hd]
      clear he hd
      go_wp2_with fail
      refine (itoa_calls g.held hrr.out.1 hrr.out.2 _).mono ?_
      rintro x w3 ⟨rfl, hc3⟩
      have HC3 : Hid (Chg [] w w3) := HC2.out.trans hc3
      clear hc3
      go_wp2_with fail
      go_meet
      exact ⟨by rw [eat.out, head1], HC3.out⟩
  case rest =>
  obtain ⟨rfl, hcw⟩ := hcut
  have sat : (atG g).size ≤ 21 := by
    unfold atG
    split
    · decide
    · exact itoa_size _
  have s5 : (head1 (namedG g) (itoa g.n) (atG g)).size ≤ 90 := by
    have e1 : (⟨#[110, 97, 109, 101, 61]⟩ : ByteArray).size = 5 := rfl
    have e2 : (⟨#[32, 108, 97, 121, 101, 114, 115, 61]⟩ : ByteArray).size = 8 := rfl
    have e3 : (⟨#[32, 104, 101, 108, 100, 61]⟩ : ByteArray).size = 6 := rfl
    simp only [head1, ByteArray.size_append, e1, e2, e3]
    omega
  have HCW : Hid (Chg [] w wc) := hcw
  clear hcw k14
  go_wp2_with fail
  refine (msince_calls (H.out.chg HCW.out (by simp)) HM.out HH.out).mono ?_
  rintro x w3 ⟨rfl, hc3⟩
  have HC3 : Hid (Chg [] w w3) := HCW.out.trans hc3
  clear hc3
  have s4 := itoa_size (sincedG g).1
  have hok := sinced_ok g
  go_upto_if 61 with fail
  go_cut [6] from 25 (fun s6 wx => s6 = .string (headG (namedG g) (itoa g.n) (atG g) (sinG g)) ∧ Chg [] w wx)
  case first =>
    by_cases hs : (sincedG g).2 = 0
    · have e5 : Hid (sinG g = itoa (sincedG g).1) := by show sinG g = _; rw [sinG, if_pos hs]
      have hs' : ((sincedG g).2 == 0) = true := by simpa using hs
      rw [hs']
      clear hs hs'
      go_wp2_with fail
      refine (itoa_calls _ hok.1 hok.2 _).mono ?_
      rintro x w4 ⟨rfl, hc4⟩
      have HC4 : Hid (Chg [] w w4) := HC3.out.trans hc4
      clear hc4
      go_wp2_with fail
      go_meet
      refine ⟨?_, HC4.out⟩
      rw [e5.out, headG, head1]
      simp only [ByteArray.append_assoc]
    · have e5 : Hid (sinG g = ⟨#[45]⟩) := by show sinG g = _; rw [sinG, if_neg hs]
      have hs' : ((sincedG g).2 == 0) = false := by simpa using hs
      rw [hs']
      clear hs hs'
      go_wp2_with fail
      go_meet
      refine ⟨?_, HC3.out⟩
      rw [e5.out, headG, head1, lit_since]
      simp only [ByteArray.append_assoc]
  case rest =>
  obtain ⟨rfl, hcw⟩ := hcut
  have ssn : (sinG g).size ≤ 21 := by
    unfold sinG
    split
    · exact itoa_size _
    · decide
  have s0 : (headG (namedG g) (itoa g.n) (atG g) (sinG g)).size ≤ 120 := by
    have e1 : (⟨#[110, 97, 109, 101, 61]⟩ : ByteArray).size = 5 := rfl
    have e2 : (⟨#[32, 108, 97, 121, 101, 114, 115, 61]⟩ : ByteArray).size = 8 := rfl
    have e3 : (⟨#[32, 104, 101, 108, 100, 61]⟩ : ByteArray).size = 6 := rfl
    have e4 : (⟨#[32, 115, 105, 110, 99, 101, 61]⟩ : ByteArray).size = 7 := rfl
    have e5 : (⟨#[32, 124]⟩ : ByteArray).size = 2 := rfl
    simp only [headG, ByteArray.size_append, e1, e2, e3, e4, e5]
    omega
  generalize hTT : headG (namedG g) (itoa g.n) (atG g) (sinG g) = TT at s0
  have HTT : Hid (headG (namedG g) (itoa g.n) (atG g) (sinG g) = TT) := hTT
  have HC4 : Hid (Chg [] w wc) := hcw
  have d13 : wc.cell? ⟨pd, 13, none⟩ = some (.slice lp (g.n - b : Nat) cap) := cell_of (hcw.keep H.out.row (by simp)) rfl
  clear hTT HCW HC2 HC3 s3 s4 hok sat ssn s5 s1 s2 hcw
  go_wp2_with fail
  go_loopw [6, 11] (fun v6 v11 wr => ∃ (j : Nat) (t : ByteArray), j ≤ g.n - b ∧ v11 = .int .i64 ((j : Int) - 1) ∧ v6 = .string t ∧ logsT g b t j = logsT g b TT (g.n - b) ∧ t.size ≤ 120 + 200 * (4 - j) ∧ Chg [] w wr) (fun _ v11 _ => (intOf v11 + 1).toNat)
  case atStart => exact ⟨g.n - b, TT, by omega, rfl, rfl, rfl, by omega, HC4.out⟩
  case round =>
    obtain ⟨j, t, hj, rfl, rfl, hbb, hts, hc⟩ := hrel
    have HC : Hid (Chg [] w wr) := hc
    have HB : Hid (logsT g b t j = logsT g b TT (g.n - b)) := hbb
    have HG : Hid (MdAt wr pd b base g lp cap) := H.out.chg hc (by simp)
    have hts2 : t.size ≤ 1000 := by omega
    clear hbb hc s0 d13 HC4
    cases j with
    | succ i =>
      have hi : b + i < 4 := by omega
      have hin : i < g.n - b := by omega
      have ls := logG_size g (b + i)
      have hts3 : Hid ((t ++ logG g (b + i)).size ≤ 120 + 200 * (4 - i)) := by show (t ++ logG g (b + i)).size ≤ _; rw [ByteArray.size_append]; omega
      clear ls hts
      have e : ((i + 1 : Nat) : Int) - 1 = i := by omega
      rw [e]
      clear e
      obtain ⟨pl, cur, rfl, g1, g2, g3, g4, g5⟩ := HG.out.pl hin
      have c13 : wr.cell? ⟨pd, 13, none⟩ = some (.slice (some ⟨pl, 0, none⟩) (g.n - b : Nat) cap) := cell_of HG.out.row rfl
      have p0 : wr.cell? ⟨pl, i * 4, none⟩ = some (.int .i64 (g.puts (b + i))) := cell_of g1 (g5 i hin).1
      have p1 : wr.cell? ⟨pl, i * 4 + 1, none⟩ = some (.int .i64 (g.dels (b + i))) := cell_of g1 (g5 i hin).2.1
      have p2 : wr.cell? ⟨pl, i * 4 + 2, none⟩ = some (.int .i64 (g.ev (b + i))) := cell_of g1 (g5 i hin).2.2.1
      have p3 : wr.cell? ⟨pl, i * 4 + 3, none⟩ = some (.int .i64 (g.evk (b + i))) := cell_of g1 (g5 i hin).2.2.2
      have q1 := itoa_size (g.puts (b + i))
      have q2 := itoa_size (g.dels (b + i))
      have q3 := itoa_size (wrap64 (g.puts (b + i) + g.dels (b + i)))
      have q4 := itoa_size (g.evk (b + i))
      clear g1 g2 g3 g4 g5
      go_wp2_with fail
      refine (itoa_calls (g.puts (b + i)) (HO.out.puts _ hi).1 (HO.out.puts _ hi).2 _).mono ?_
      rintro x w5 ⟨rfl, hc5⟩
      have hl5 : w5.heap[wr.heap.size]? = some (.cells #[.int .i64 (g.puts (b + i)), .int .i64 (g.dels (b + i)), .int .i64 (g.ev (b + i)), .int .i64 (g.evk (b + i))] 100 (0, 0)) := hc5.keep (heap_alloc_new _ _) (by simp)
      have HL5 : Hid (w5.heap[wr.heap.size]? = some (.cells #[.int .i64 (g.puts (b + i)), .int .i64 (g.dels (b + i)), .int .i64 (g.ev (b + i)), .int .i64 (g.evk (b + i))] 100 (0, 0))) := hl5
      have HC5 : Hid (Chg [] wr w5) := ((Chg.refl [] wr).alloc _).trans hc5
      have l1 : w5.cell? ⟨wr.heap.size, 1, none⟩ = some (.int .i64 (g.dels (b + i))) := cell_of hl5 rfl
      clear hc5 hl5 p0 p1 p2 p3 c13
      go_wp2_with fail
      refine (itoa_calls (g.dels (b + i)) (HO.out.dels _ hi).1 (HO.out.dels _ hi).2 _).mono ?_
      rintro x w6 ⟨rfl, hc6⟩
      have HC6 : Hid (Chg [] wr w6) := HC5.out.trans hc6
      have hl6 := hc6.keep HL5.out (by simp)
      have HL6 : Hid (w6.heap[wr.heap.size]? = some (.cells #[.int .i64 (g.puts (b + i)), .int .i64 (g.dels (b + i)), .int .i64 (g.ev (b + i)), .int .i64 (g.evk (b + i))] 100 (0, 0))) := hl6
      have m0 : w6.cell? ⟨wr.heap.size, 0, none⟩ = some (.int .i64 (g.puts (b + i))) := cell_of hl6 rfl
      have m1 : w6.cell? ⟨wr.heap.size, 1, none⟩ = some (.int .i64 (g.dels (b + i))) := cell_of hl6 rfl
      clear hc6 hl6 l1
      go_wp2_with fail
      refine (itoa_calls _ (wrap64_ok _).1 (wrap64_ok _).2 _).mono ?_
      rintro x w7 ⟨rfl, hc7⟩
      have HC7 : Hid (Chg [] wr w7) := HC6.out.trans hc7
      have hl7 := hc7.keep HL6.out (by simp)
      have HL7 : Hid (w7.heap[wr.heap.size]? = some (.cells #[.int .i64 (g.puts (b + i)), .int .i64 (g.dels (b + i)), .int .i64 (g.ev (b + i)), .int .i64 (g.evk (b + i))] 100 (0, 0))) := hl7
      have n2 : w7.cell? ⟨wr.heap.size, 2, none⟩ = some (.int .i64 (g.ev (b + i))) := cell_of hl7 rfl
      have n3 : w7.cell? ⟨wr.heap.size, 3, none⟩ = some (.int .i64 (g.evk (b + i))) := cell_of hl7 rfl
      have hok := HO.out.evk _ hi
      clear hc7 hl7 m0 m1
      rcases HO.out.ev _ hi with he | he | he
      · rw [he] at n2
        have EV : Hid (evS (g.ev (b + i)) (g.evk (b + i)) = ⟨#[45]⟩) := by show evS _ _ = _; rw [he]; rfl
        clear he
        go_wp2
        refine ⟨⟨i, t ++ logG g (b + i), by omega, rfl, ?_, ?_, hts3.out, HC.out.trans HC7.out⟩, by simp [intOf]⟩
        · rw [logG, EV.out, lit_dash]
          simp only [ByteArray.append_assoc]
        · rw [← HB.out]; rfl
      · have he2 : Hid (g.ev (b + i) = 80) := he
        rw [he] at n2
        have EV : Hid (evS (g.ev (b + i)) (g.evk (b + i)) = ⟨#[80]⟩ ++ itoa (g.evk (b + i))) := by show evS _ _ = _; rw [he]; rfl
        clear he
        go_wp2_with fail
        refine (itoa_calls _ hok.1 hok.2 _).mono ?_
        rintro x w8 ⟨rfl, hc8⟩
        have HC8 : Hid (Chg [] wr w8) := HC7.out.trans hc8
        have ce' : w8.cell? ⟨wr.heap.size, 2, none⟩ = some (.int .i64 80) := by rw [← he2.out]; exact cell_of (hc8.keep HL7.out (by simp)) rfl
        have hcv : (convert 70 9 (.slice (some ⟨w8.heap.size, 0, none⟩) 1 1)).run Try.prog (w8.alloc (.cells #[.int .u8 80] 5)) = .ok (.string ⟨#[80]⟩) (w8.alloc (.cells #[.int .u8 80] 5)) := conv_80 w8
        have e1 : (⟨#[80]⟩ : ByteArray).size = 1 := rfl
        clear hc8 n2 n3
        go_wp2
        refine ⟨⟨i, t ++ logG g (b + i), by omega, rfl, ?_, ?_, hts3.out, HC.out.trans (HC8.out.alloc _)⟩, by simp [intOf]⟩
        · rw [logG, EV.out]
          simp only [ByteArray.append_assoc]
        · rw [← HB.out]; rfl
      · have he2 : Hid (g.ev (b + i) = 68) := he
        rw [he] at n2
        have EV : Hid (evS (g.ev (b + i)) (g.evk (b + i)) = ⟨#[68]⟩ ++ itoa (g.evk (b + i))) := by show evS _ _ = _; rw [he]; rfl
        clear he
        go_wp2_with fail
        refine (itoa_calls _ hok.1 hok.2 _).mono ?_
        rintro x w8 ⟨rfl, hc8⟩
        have HC8 : Hid (Chg [] wr w8) := HC7.out.trans hc8
        have ce' : w8.cell? ⟨wr.heap.size, 2, none⟩ = some (.int .i64 68) := by rw [← he2.out]; exact cell_of (hc8.keep HL7.out (by simp)) rfl
        have hcv : (convert 70 9 (.slice (some ⟨w8.heap.size, 0, none⟩) 1 1)).run Try.prog (w8.alloc (.cells #[.int .u8 68] 5)) = .ok (.string ⟨#[68]⟩) (w8.alloc (.cells #[.int .u8 68] 5)) := conv_68 w8
        have e1 : (⟨#[68]⟩ : ByteArray).size = 1 := rfl
        clear hc8 n2 n3
        go_wp2
        refine ⟨⟨i, t ++ logG g (b + i), by omega, rfl, ?_, ?_, hts3.out, HC.out.trans (HC8.out.alloc _)⟩, by simp [intOf]⟩
        · rw [logG, EV.out]
          simp only [ByteArray.append_assoc]
        · rw [← HB.out]; rfl
    | zero =>
      have hneg : ((0 : Nat) : Int) - 1 = -1 := by omega
      rw [hneg]
      have HT : Hid (t = logsT g b TT (g.n - b)) := HB.out
      have c8 : wr.cell? ⟨pd, 8, none⟩ = some (.int .i64 base) := cell_of HG.out.row rfl
      have u1 := itoa_size 2
      have u2 := itoa_size g.c.hits
      have u3 := itoa_size g.c.key
      have u4 := itoa_size g.c.val
      have u5 := limG_size
      have u6 := cacG_size g.c
      clear hneg hts
      go_upto_if 133 with fail
      go_cut [6] from 25 (fun s6 wx => s6 = .string (if base = 3 then t ++ limG else t) ∧ Chg [] w wx)
      case first =>
        by_cases h3 : base = 3
        · have h3' : (base == 3) = true := by simpa using h3
          have E3 : Hid ((if base = 3 then t ++ limG else t) = t ++ limG) := by show (if base = 3 then t ++ limG else t) = _; rw [if_pos h3]
          rw [h3']
          clear h3 h3'
          go_wp2_with fail
          refine (itoa_calls 2 (by omega) (by omega) _).mono ?_
          rintro x w5 ⟨rfl, hc5⟩
          have HC5 : Hid (Chg [] w w5) := HC.out.trans hc5
          clear hc5
          go_wp2_with fail
          go_meet
          exact ⟨by rw [E3.out]; rfl, HC5.out⟩
        · have h3' : (base == 3) = false := by simpa using h3
          have E3 : Hid ((if base = 3 then t ++ limG else t) = t) := by show (if base = 3 then t ++ limG else t) = _; rw [if_neg h3]
          rw [h3']
          clear h3 h3'
          go_wp2_with fail
          go_meet
          exact ⟨by rw [E3.out], HC.out⟩
      case rest =>
      obtain ⟨rfl, hcw⟩ := hcut
      have hu : (if base = 3 then t ++ limG else t).size ≤ 1100 := by
        split
        · rw [ByteArray.size_append]; omega
        · omega
      generalize hUU : (if base = 3 then t ++ limG else t) = UU at hu
      have HUU : Hid ((if base = 3 then t ++ limG else t) = UU) := hUU
      have HCW : Hid (Chg [] w wc) := hcw
      have HGw : Hid (MdAt wc pd b base g lp cap) := H.out.chg hcw (by simp)
      have k8 : wc.cell? ⟨pd, 8, none⟩ = some (.int .i64 base) := cell_of HGw.out.row rfl
      have k9 : wc.cell? ⟨pd, 9, none⟩ = some (.int .i64 g.c.hits) := cell_of HGw.out.row rfl
      clear hcw hUU c8 HC HG HB
      go_upto_if 144 with fail
      go_cut [6] from 25 (fun s6 wx => s6 = .string (if b = 1 then UU ++ cacG g.c else UU) ∧ Chg [] w wx)
      case first =>
        rcases HM.out.bb with ⟨hb0, hbase, _⟩ | ⟨hb1, _, _, hbase⟩
        · have h3' : (base != 0) = false := by simp [hbase]
          have E3 : Hid ((if b = 1 then UU ++ cacG g.c else UU) = UU) := by show (if b = 1 then _ else _) = _; rw [if_neg (by omega)]
          rw [h3']
          clear h3' hbase hb0
          go_wp2_with fail
          go_meet
          exact ⟨by rw [E3.out], HCW.out⟩
        · have h3' : (base != 0) = true := by simp; omega
          have E3 : Hid ((if b = 1 then UU ++ cacG g.c else UU) = UU ++ cacG g.c) := by show (if b = 1 then _ else _) = _; rw [if_pos hb1]
          rw [h3']
          clear h3' hbase hb1
          go_wp2_with fail
          refine (itoa_calls g.c.hits HO.out.c.1.1 HO.out.c.1.2 _).mono ?_
          rintro x w6 ⟨rfl, hc6⟩
          have HC6 : Hid (Chg [] w w6) := HCW.out.trans hc6
          have cf : w6.cell? ⟨pd, 10, none⟩ = some (.bool g.c.full) := cell_of (HC6.out.keep H.out.row (by simp)) rfl
          have cy : w6.cell? ⟨pd, 11, none⟩ = some (.int .i64 g.c.key) := cell_of (HC6.out.keep H.out.row (by simp)) rfl
          clear hc6 k8 k9
          cases hf : g.c.full with
          | false =>
            rw [hf] at cf
            have EK : Hid (keyS g.c = ⟨#[45]⟩) := by show keyS g.c = _; rw [keyS, hf]; rfl
            clear hf
            go_wp2_with fail
            go_meet
            refine ⟨?_, HC6.out⟩
            rw [E3.out, cacG, EK.out, lit_dash]
            simp only [ByteArray.append_assoc]
          | true =>
            rw [hf] at cf
            have EK : Hid (keyS g.c = (itoa g.c.key ++ ⟨#[58]⟩) ++ itoa g.c.val) := by show keyS g.c = _; rw [keyS, hf]; rfl
            clear hf
            go_wp2_with fail
            refine (itoa_calls g.c.key HO.out.c.2.1.1 HO.out.c.2.1.2 _).mono ?_
            rintro x w7 ⟨rfl, hc7⟩
            have HC7 : Hid (Chg [] w w7) := HC6.out.trans hc7
            have cv : w7.cell? ⟨pd, 12, none⟩ = some (.int .i64 g.c.val) := cell_of (HC7.out.keep H.out.row (by simp)) rfl
            clear hc7 cf cy
            go_wp2_with fail
            refine (itoa_calls g.c.val HO.out.c.2.2.1 HO.out.c.2.2.2 _).mono ?_
            rintro x w8 ⟨rfl, hc8⟩
            have HC8 : Hid (Chg [] w w8) := HC7.out.trans hc8
            clear hc8 cv
            go_wp2_with fail
            go_meet
            refine ⟨?_, HC8.out⟩
            rw [E3.out, cacG, EK.out]
            simp only [ByteArray.append_assoc]
      case rest =>
      obtain ⟨rfl, hcw⟩ := hcut
      have hv : (if b = 1 then UU ++ cacG g.c else UU).size ≤ 1300 := by
        split
        · rw [ByteArray.size_append]; omega
        · omega
      generalize hVV : (if b = 1 then UU ++ cacG g.c else UU) = VV at hv
      have HVV : Hid (shownG g = tailG g.m VV) := by
        show shownG g = _
        have hl := lays_eq HM.out (g.n - b) TT (by omega)
        rw [show b + (g.n - b) = g.n by omega] at hl
        rw [shownG, HTT.out, hl]
        simp only
        rw [← HT.out, ← hVV]
        rcases HM.out.bb with ⟨hb0, hbase, _⟩ | ⟨hb1, _, _, _⟩
        · have eu : UU = t := by rw [← HUU.out, if_neg (by omega)]
          rw [if_neg (by omega), if_neg (by omega), eu]
        · rw [if_pos hb1, if_pos hb1, HUU.out]
      have HCX : Hid (Chg [] w wc) := hcw
      clear hcw hVV HCW HGw HUU HT hu u1 u2 u3 u4 u5 u6 k8 k9
      go_wp2_with fail
      have e7 : (⟨#[32, 109, 101, 109, 91]⟩ : ByteArray).size = 5 := rfl
      go_loopw [6, 21, 22] (fun v6 v21 v22 wq => ∃ (j : Nat) (f : Bool), j ≤ 4 ∧ v22 = .int .i64 j ∧ v6 = .string (memT g.m (VV ++ ⟨#[32, 109, 101, 109, 91]⟩) j).1 ∧ v21 = .bool f ∧ (memT g.m (VV ++ ⟨#[32, 109, 101, 109, 91]⟩) j).2 = (if f then ⟨#[]⟩ else ⟨#[32]⟩) ∧ Chg [] w wq) (fun _ _ v22 _ => (4 - intOf v22).toNat)
      case atStart => exact ⟨0, true, by omega, rfl, rfl, rfl, rfl, HCX.out⟩
      case round =>
        obtain ⟨j, f, hj, rfl, rfl, rfl, hsep, hcq⟩ := hrel
        have HCq : Hid (Chg [] w wr) := hcq
        have hsz := memT_size g.m (VV ++ ⟨#[32, 109, 101, 109, 91]⟩) j
        rw [ByteArray.size_append, e7] at hsz
        have z1 : (memT g.m (VV ++ ⟨#[32, 109, 101, 109, 91]⟩) j).1.size ≤ 1700 := by omega
        have HSP : Hid ((memT g.m (VV ++ ⟨#[32, 109, 101, 109, 91]⟩) j).2 = (if f then ⟨#[]⟩ else ⟨#[32]⟩)) := hsep
        clear hsz hcq hsep
        by_cases hj4 : j < 4
        · have cj : wr.cell? ⟨pd, j, none⟩ = some (.bool (g.m.has j)) := cell_of (HCq.out.keep H.out.row (by simp)) (md_has _ _ _ hj4)
          have i1 := itoa_size j
          have i2 := itoa_size (g.m.val j)
          cases hh : g.m.has j with
          | true =>
            rw [hh] at cj
            have E : Hid (memT g.m (VV ++ ⟨#[32, 109, 101, 109, 91]⟩) (j + 1) = ((memT g.m (VV ++ ⟨#[32, 109, 101, 109, 91]⟩) j).1 ++ ((((if f then ⟨#[]⟩ else ⟨#[32]⟩) ++ itoa j) ++ ⟨#[61]⟩) ++ itoa (g.m.val j)), ⟨#[32]⟩)) := by
              show memT _ _ _ = _
              rw [memT, if_pos hh, HSP.out]
            generalize memT g.m (VV ++ ⟨#[32, 109, 101, 109, 91]⟩) j = mt at *
            go_wp2_with fail
            refine (itoa_calls j (by omega) (by omega) _).mono ?_
            rintro x w5 ⟨rfl, hc5⟩
            have HC5 : Hid (Chg [] w w5) := HCq.out.trans hc5
            have cv : w5.cell? ⟨pd, 4 + j, none⟩ = some (.int .i64 (g.m.val j)) := cell_of (HC5.out.keep H.out.row (by simp)) (md_val _ _ _ hj4)
            clear hc5 cj
            go_wp2_with fail
            refine (itoa_calls (g.m.val j) (HO.out.m j hj4).1 (HO.out.m j hj4).2 _).mono ?_
            rintro x w6 ⟨rfl, hc6⟩
            have HC6 : Hid (Chg [] w w6) := HC5.out.trans hc6
            clear hc6 cv
            cases f with
            | true =>
              go_wp2
              refine ⟨⟨j + 1, false, by omega, by simp, ?_, rfl, ?_, HC6.out⟩, by simp [intOf]; omega⟩
              · rw [E.out]
                have ee : (⟨#[]⟩ : ByteArray) = ByteArray.empty := rfl
                simp only [if_true, ee, ByteArray.empty_append, ByteArray.append_assoc]
              · rw [E.out]; rfl
            | false =>
              go_wp2
              refine ⟨⟨j + 1, false, by omega, by simp, ?_, rfl, ?_, HC6.out⟩, by simp [intOf]; omega⟩
              · rw [E.out]
                simp only [Bool.false_eq_true, if_false, ByteArray.append_assoc]
              · rw [E.out]; rfl
          | false =>
            rw [hh] at cj
            have E : Hid (memT g.m (VV ++ ⟨#[32, 109, 101, 109, 91]⟩) (j + 1) = memT g.m (VV ++ ⟨#[32, 109, 101, 109, 91]⟩) j) := by
              show memT _ _ _ = _
              rw [memT, if_neg (by simp [hh])]
            generalize memT g.m (VV ++ ⟨#[32, 109, 101, 109, 91]⟩) j = mt at *
            go_wp2
            exact ⟨⟨j + 1, f, by omega, by simp, by rw [E.out], rfl, by rw [E.out]; exact HSP.out, HCq.out⟩, by simp [intOf]; omega⟩
        · have E : Hid (j = 4) := by show j = 4; omega
          have ef : Hid (shownG g = (memT g.m (VV ++ ⟨#[32, 109, 101, 109, 91]⟩) j).1 ++ ⟨#[93]⟩) := by
            show shownG g = _
            rw [HVV.out, tailG, E.out]
          generalize memT g.m (VV ++ ⟨#[32, 109, 101, 109, 91]⟩) j = mt at *
          go_wp2
          go_ret
          exact ⟨by rw [ef.out]; rfl, HCq.out⟩
end Go.Proofs.Qxb6500371a.W
