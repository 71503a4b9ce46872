import Derived.Test.Qxb6500371aMeth2
import Derived.Test.Qxb6500371aDel
set_option linter.unusedVariables false
set_option linter.unusedSimpArgs false
namespace Go.Proofs.Qxb6500371a.W
open Go.RowKit Go.Maps

theorem len_cac0 (n p : Nat) (w : World) : (method (n + 1) 86 (pt p) "Len").run Try.prog w = (Sem.load .plain ⟨p, 0, none⟩ (fun v => .pure (112, v))).run Try.prog w := by kernel_rfl
theorem len_lim0 (n p : Nat) (w : World) : (method (n + 1) 91 (pt p) "Len").run Try.prog w = (Sem.load .plain ⟨p, 0, none⟩ (fun v => .pure (112, v))).run Try.prog w := by kernel_rfl

def lenF : List Layer → Nat
  | .logged _ _ :: _ => 117
  | _ => 112
def lenV (pm : Nat) : List Layer → Value
  | .logged p _ :: _ => pt p
  | _ => pt pm

theorem len_load {w : World} {p : Nat} {v : Value} (h : w.cell? ⟨p, 0, none⟩ = some v) : (Sem.load .plain ⟨p, 0, none⟩ (fun v => (.pure (112, v) : Sem (FuncId × Value)))).run Try.prog w = .ok (112, v) w := by
  rw [Sem.run, h]
  rfl

theorem len_meth {w : World} {pm mp : Nat} {m : MS} : ∀ {ls : List Layer}, StackAt w pm mp m ls → ∀ {T : Nat} {v : Value}, topV pm ls = .iface T v → (method 228 T v "Len").run Try.prog w = .ok (lenF ls, lenV pm ls) w
  | [], h, T, v, ht => by cases ht; exact mem_len pm w
  | .cached p c :: r, h, T, v, ht => by
    cases ht
    obtain ⟨rfl, h1, h2, h3, h4⟩ := h
    rw [len_cac0 227 p w]
    exact len_load (cell_of h3 rfl)
  | .limited p c :: r, h, T, v, ht => by
    cases ht
    obtain ⟨rfl, h1, h2, h3, h4⟩ := h
    rw [len_lim0 227 p w]
    exact len_load (cell_of h3 rfl)
  | .logged p l :: r, h, T, v, ht => by cases ht; exact logged_len p w

theorem lenF_in (ls : List Layer) : lenF ls = 112 ∨ lenF ls = 117 := by
  unfold lenF
  split <;> simp

theorem callFl (f : Nat) (h : f = 112 ∨ f = 117) (args : Array Value) (w : World) : (callFunc f args).run Try.prog w = .ok (.enter f args) w := by
  rcases h with rfl | rfl <;> kernel_rfl

set_option maxRecDepth 4000 in
theorem lenL_calls {pm mp : Nat} : ∀ (ls : List Layer) (m : MS) (w : World), StackAt w pm mp m ls →
    Calls Try.prog (lenF ls) #[lenV pm ls] w fun x w' => x = .returned (.int .i64 m.cnt) ∧ w' = w
  | [], m, w, h => len_calls h
  | .cached p c :: r, m, w, h => len_calls h.2.2.2.2
  | .limited p c :: r, m, w, h => len_calls h.2.2.2.2
  | .logged p l :: r, m, w, h => by
    obtain ⟨h1, h2, h3⟩ := h
    have IH := lenL_calls (pm := pm) (mp := mp) r m w h3
    obtain ⟨T, tv, ht⟩ := top_iface pm r
    have hm := len_meth h3 ht
    have hcf := fun args w => callFl (lenF r) (lenF_in r) args w
    have c0 : w.cell? ⟨p, 0, none⟩ = some (.iface T tv) := by rw [← ht]; exact cell_of h2 rfl
    have IH' : Hid (Calls Try.prog (lenF r) #[lenV pm r] w fun x w' => x = .returned (.int .i64 m.cnt) ∧ w' = w) := IH
    clear IH h1 h2 h3 ht
    show Calls Try.prog 117 #[pt p] w _
    go_enter Try.func117, Try.ntmps117
    go_wp2_with fail
    refine IH'.out.mono ?_
    rintro e w2 ⟨rfl, rfl⟩
    go_wp2
    go_ret
    exact ⟨rfl, rfl⟩

def lastS : Option (Bool × Int) → ByteArray
  | none => ⟨#[45]⟩
  | some (true, k) => ⟨#[80]⟩ ++ itoa k
  | some (false, k) => ⟨#[68]⟩ ++ itoa k

def logS (l : LS) : ByteArray :=
  (((((((⟨#[108, 111, 103, 91, 112, 61]⟩ ++ itoa l.puts) ++ ⟨#[32, 100, 61]⟩) ++ itoa l.dels) ++ ⟨#[32, 110, 61]⟩) ++ itoa (wrap64 (l.puts + l.dels))) ++ ⟨#[32, 108, 97, 115, 116, 61]⟩) ++ lastS l.last) ++ ⟨#[93, 32]⟩

def tellL : List Layer → MS → ByteArray
  | [], m => tellMem m
  | .cached _ c :: _, m => tellC c m
  | .limited _ c :: _, m => tellLim c m
  | .logged _ l :: r, m => logS l ++ tellL r m

theorem lastS_size (o : Option (Bool × Int)) : (lastS o).size ≤ 30 := by
  cases o with
  | none => decide
  | some z =>
    obtain ⟨b, k⟩ := z
    have := itoa_size k
    cases b
    · have e : (⟨#[68]⟩ : ByteArray).size = 1 := rfl
      simp only [lastS, ByteArray.size_append, e]; omega
    · have e : (⟨#[80]⟩ : ByteArray).size = 1 := rfl
      simp only [lastS, ByteArray.size_append, e]; omega

theorem logS_size (l : LS) : (logS l).size ≤ 200 := by
  have h1 := itoa_size l.puts
  have h2 := itoa_size l.dels
  have h3 := itoa_size (wrap64 (l.puts + l.dels))
  have h4 := lastS_size l.last
  have e1 : (⟨#[108, 111, 103, 91, 112, 61]⟩ : ByteArray).size = 6 := rfl
  have e2 : (⟨#[32, 100, 61]⟩ : ByteArray).size = 3 := rfl
  have e3 : (⟨#[32, 110, 61]⟩ : ByteArray).size = 3 := rfl
  have e4 : (⟨#[32, 108, 97, 115, 116, 61]⟩ : ByteArray).size = 6 := rfl
  have e5 : (⟨#[93, 32]⟩ : ByteArray).size = 2 := rfl
  simp only [logS, ByteArray.size_append, e1, e2, e3, e4, e5]
  omega

theorem tellLim_size (c : CS) (m : MS) : (tellLim c m).size ≤ 600 := by
  have h1 := itoa_size 2
  have h2 := tellC_size c m
  have e1 : (⟨#[108, 105, 109, 105, 116, 101, 100, 91, 109, 97, 120, 61]⟩ : ByteArray).size = 12 := rfl
  have e2 : (⟨#[93, 32]⟩ : ByteArray).size = 2 := rfl
  simp only [tellLim, ByteArray.size_append, e1, e2]
  omega

theorem tellL_size (m : MS) : ∀ ls : List Layer, (tellL ls m).size ≤ 600 + 200 * ls.length
  | [] => by have := tellMem_size m; simp only [tellL, List.length_nil]; omega
  | .cached p c :: r => by have := tellC_size c m; simp only [tellL, List.length_cons]; omega
  | .limited p c :: r => by have := tellLim_size c m; simp only [tellL, List.length_cons]; omega
  | .logged p l :: r => by
    have h1 := logS_size l
    have h2 := tellL_size m r
    simp only [tellL, List.length_cons, ByteArray.size_append]
    omega

def LS.ok (l : LS) : Prop := i64ok l.puts ∧ i64ok l.dels ∧ ∀ b k, l.last = some (b, k) → i64ok k
def Layer.ok : Layer → Prop
  | .cached _ c => c.ok
  | .limited _ c => c.ok
  | .logged _ l => l.ok

theorem wrap64_ok (x : Int) : i64ok (wrap64 x) := by
  unfold wrap64 i64ok
  omega

theorem ta_pp (k : Int) (w : World) : (Instr.typeAssert (.iface 123 (.int .i64 k)) 73 123 true).run Try.prog w = .ok (.tuple #[.int .i64 k, .bool true]) w := by kernel_rfl
theorem ta_dp (k : Int) (w : World) : (Instr.typeAssert (.iface 121 (.int .i64 k)) 73 123 true).run Try.prog w = .ok (.tuple #[.int .i64 0, .bool false]) w := by kernel_rfl
theorem ta_dd (k : Int) (w : World) : (Instr.typeAssert (.iface 121 (.int .i64 k)) 73 121 true).run Try.prog w = .ok (.tuple #[.int .i64 k, .bool true]) w := by kernel_rfl

def tellF : List Layer → Nat
  | [] => 115
  | .cached _ _ :: _ => 127
  | .limited _ _ :: _ => 131
  | .logged _ _ :: _ => 119

theorem callFt (f : Nat) (h : f ∈ [115, 127, 131, 119]) (args : Array Value) (w : World) : (callFunc f args).run Try.prog w = .ok (.enter f args) w := by
  simp only [List.mem_cons, List.not_mem_nil, or_false] at h
  rcases h with rfl | rfl | rfl | rfl <;> kernel_rfl

theorem tell_meth (pm : Nat) (ls : List Layer) : ∃ T v, topV pm ls = .iface T v ∧ ∀ w, (method 228 T v "Tell").run Try.prog w = .ok (tellF ls, recv pm ls) w := by
  cases ls with
  | nil => exact ⟨_, _, rfl, mem_tell pm⟩
  | cons x r =>
    cases x with
    | cached p c => exact ⟨_, _, rfl, cached_tell p⟩
    | limited p c => exact ⟨_, _, rfl, limited_tell p⟩
    | logged p l => exact ⟨_, _, rfl, logged_tell p⟩

theorem tellF_in (ls : List Layer) : tellF ls ∈ [115, 127, 131, 119] := by
  cases ls with
  | nil => simp [tellF]
  | cons x r => cases x <;> simp [tellF]

set_option maxHeartbeats 2000000 in
set_option maxRecDepth 4000 in
theorem tellL_calls {pm mp : Nat} {m : MS} (hmk : m.ok) : ∀ (ls : List Layer) (w : World), StackAt w pm mp m ls → ls.length ≤ 4 → (∀ x ∈ ls, x.ok) →
    Calls Try.prog (tellF ls) #[recv pm ls] w fun x w' => x = .returned (.string (tellL ls m)) ∧ Chg [] w w'
  | [], w, h, hn, ho => tell_calls h hmk
  | .cached p c :: r, w, h, hn, ho => ctell_calls h.2.2.2.1 h.2.2.2.2 (ho (.cached p c) (by simp)) hmk
  | .limited p c :: r, w, h, hn, ho => ltell_calls h.2.2.2.1 h.2.2.2.2 (ho (.limited p c) (by simp)) hmk
  | .logged p l :: r, w, h, hn, ho => by
    obtain ⟨h1, h2, h3⟩ := h
    simp only [List.length_cons] at hn
    have IH := tellL_calls (pm := pm) (mp := mp) hmk r
    have hlo : l.ok := ho (.logged p l) (by simp)
    have hro : ∀ x ∈ r, x.ok := fun x hx => ho x (by simp [hx])
    obtain ⟨T, tv, ht, hm⟩ := tell_meth pm r
    have hcf := fun args w => callFt (tellF r) (tellF_in r) args w
    have IH' : Hid (∀ (w : World), StackAt w pm mp m r → Calls Try.prog (tellF r) #[recv pm r] w fun x w' => x = .returned (.string (tellL r m)) ∧ Chg [] w w') := fun w hw => IH w hw (by omega) hro
    have HT : Hid (topV pm r = .iface T tv) := ht
    have H2 : Hid (LogAt w p (topV pm r) l) := h2
    have H3 : Hid (StackAt w pm mp m r) := h3
    have HO : Hid l.ok := hlo
    have HM : Hid m.ok := hmk
    have c1 : w.cell? ⟨p, 1, none⟩ = some (.int .i64 l.puts) := cell_of h2 rfl
    have s5 : (tellL r m).size ≤ 2000 := by have := tellL_size m r; omega
    clear IH ht h1 h2 h3 hro hlo hmk ho
    show Calls Try.prog 119 #[pt p] w _
    go_enter Try.func119, Try.ntmps119
    go_wp2_with fail
    refine (itoa_calls l.puts HO.out.1.1 HO.out.1.2 _).mono ?_
    rintro e w1 ⟨rfl, hc1⟩
    have g1 : LogAt w1 p (topV pm r) l := H2.out.chg hc1 (by simp)
    have c2 : w1.cell? ⟨p, 2, none⟩ = some (.int .i64 l.dels) := cell_of g1 rfl
    have G1 : Hid (LogAt w1 p (topV pm r) l) := g1
    have HC1 : Hid (Chg [] w w1) := hc1
    clear g1 hc1 c1
    go_wp2_with fail
    refine (itoa_calls l.dels HO.out.2.1.1 HO.out.2.1.2 _).mono ?_
    rintro e w2 ⟨rfl, hc2⟩
    have g2 : LogAt w2 p (topV pm r) l := G1.out.chg hc2 (by simp)
    have d1 : w2.cell? ⟨p, 1, none⟩ = some (.int .i64 l.puts) := cell_of g2 rfl
    have d2 : w2.cell? ⟨p, 2, none⟩ = some (.int .i64 l.dels) := cell_of g2 rfl
    have G2 : Hid (LogAt w2 p (topV pm r) l) := g2
    have HC2 : Hid (Chg [] w w2) := HC1.out.trans hc2
    clear g2 hc2 c2 G1
    go_wp2_with fail
    refine (tlen_calls _ _ _).mono ?_
    rintro e w3 ⟨rfl, hc3⟩
    have g3 : LogAt w3 p (topV pm r) l := G2.out.chg hc3 (by simp)
    have G3 : Hid (LogAt w3 p (topV pm r) l) := g3
    have HC3 : Hid (Chg [] w w3) := HC2.out.trans hc3
    clear g3 hc3 d1 d2 G2
    go_wp2_with fail
    refine (itoa_calls _ (wrap64_ok _).1 (wrap64_ok _).2 _).mono ?_
    rintro e w4 ⟨rfl, hc4⟩
    have g4 : LogAt w4 p (topV pm r) l := G3.out.chg hc4 (by simp)
    have G4 : Hid (LogAt w4 p (topV pm r) l) := g4
    have HC4 : Hid (Chg [] w w4) := HC3.out.trans hc4
    have e0 : w4.cell? ⟨p, 0, none⟩ = some (.iface T tv) := by rw [← HT.out]; exact cell_of g4 rfl
    have e3 : w4.cell? ⟨p, 3, none⟩ = some (evV l.last) := cell_of g4 rfl
    clear g4 hc4 G3
    have s1 := itoa_size l.puts
    have s2 := itoa_size l.dels
    have s3 := itoa_size (wrap64 (l.puts + l.dels))
    cases hl : l.last with
    | none =>
      rw [hl, evV] at e3
      go_wp2_with fail
      refine (IH'.out _ (H3.out.chg HC4.out (by simp))).mono ?_
      rintro e w5 ⟨rfl, hc5⟩
      have HC5 : Hid (Chg [] w w5) := HC4.out.trans hc5
      clear hc5
      go_wp2
      go_ret
      exact ⟨by rw [tellL, logS, hl]; rfl, HC5.out⟩
    | some z =>
      obtain ⟨b, k⟩ := z
      have hk : i64ok k := HO.out.2.2 b k hl
      have s4 := itoa_size k
      cases b with
      | true =>
        rw [hl, evV] at e3
        have t1 := ta_pp k w4
        go_wp2_with fail
        refine (itoa_calls k hk.1 hk.2 _).mono ?_
        rintro e w5 ⟨rfl, hc5⟩
        have g5 : LogAt w5 p (topV pm r) l := G4.out.chg hc5 (by simp)
        have k0 : w5.cell? ⟨p, 0, none⟩ = some (.iface T tv) := by rw [← HT.out]; exact cell_of g5 rfl
        have HC5 : Hid (Chg [] w w5) := HC4.out.trans hc5
        clear hc5 g5 e0 e3
        go_wp2_with fail
        refine (IH'.out _ (H3.out.chg HC5.out (by simp))).mono ?_
        rintro e w6 ⟨rfl, hc6⟩
        have HC6 : Hid (Chg [] w w6) := HC5.out.trans hc6
        clear hc6
        go_wp2
        go_ret
        exact ⟨by rw [tellL, logS, hl]; rfl, HC6.out⟩
      | false =>
        rw [hl, evV] at e3
        have t1 := ta_dp k w4
        have t2 := ta_dd k w4
        go_wp2_with fail
        refine (itoa_calls k hk.1 hk.2 _).mono ?_
        rintro e w5 ⟨rfl, hc5⟩
        have g5 : LogAt w5 p (topV pm r) l := G4.out.chg hc5 (by simp)
        have k0 : w5.cell? ⟨p, 0, none⟩ = some (.iface T tv) := by rw [← HT.out]; exact cell_of g5 rfl
        have HC5 : Hid (Chg [] w w5) := HC4.out.trans hc5
        clear hc5 g5 e0 e3
        go_wp2_with fail
        refine (IH'.out _ (H3.out.chg HC5.out (by simp))).mono ?_
        rintro e w6 ⟨rfl, hc6⟩
        have HC6 : Hid (Chg [] w w6) := HC5.out.trans hc6
        clear hc6
        go_wp2
        go_ret
        exact ⟨by rw [tellL, logS, hl]; rfl, HC6.out⟩
end Go.Proofs.Qxb6500371a.W
