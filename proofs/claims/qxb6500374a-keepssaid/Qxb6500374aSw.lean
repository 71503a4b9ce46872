import Derived.Test.Qxb6500374aGc
set_option linter.unusedVariables false
set_option linter.unusedSimpArgs false
namespace Go.Proofs.Qxb6500374a.W
open Go.RowKit Go.Maps

def it1 (a b : Nat) : ByteArray := ((⟨#[32]⟩ ++ itoa a) ++ ⟨#[62]⟩) ++ itoa b
def gL (a : Nat) (l : List Nat) (s : ByteArray) : ByteArray := l.foldl (fun s b => s ++ it1 a b) s
/-- A node's edges, ascending. -/
def sl (A : Nat → List Nat) (a : Nat) : List Nat := (List.range 8).filter fun b => (A a).contains b
def gS (A : Nat → List Nat) : Nat → ByteArray
  | 0 => ⟨#[103]⟩
  | a + 1 => gL a (sl A a) (gS A a)
def it2 (h t : Nat) (c : Int) : ByteArray := ((((⟨#[32]⟩ ++ itoa h) ++ ⟨#[47]⟩) ++ itoa t) ++ ⟨#[58]⟩) ++ itoa c
def low (h t : Nat) : Bool := Nat.gcd h t == 1
def hP (cn : Nat → Int) (t h : Nat) : Bool := low h t && decide (0 < cn (rj h t))
def hL (cn : Nat → Int) (t : Nat) (l : List Nat) (s : ByteArray) : ByteArray := l.foldl (fun s h => s ++ it2 h t (cn (rj h t))) s
/-- The rates with fewer than t tries. -/
def hQ (cn : Nat → Int) (s : ByteArray) : Nat → ByteArray
  | 0 => s
  | t + 1 => hL cn t ((List.range (t + 1)).filter (hP cn t)) (hQ cn s t)
/-- Show, plainly. -/
def showS (S : WS) : ByteArray := (hQ S.cn (gS S.A 8 ++ ⟨#[59, 32, 104]⟩) 5 ++ ⟨#[59, 32, 110, 97, 110, 61]⟩) ++ itoa S.nn

theorem it1_size (a b : Nat) : (it1 a b).size ≤ 44 := by
  have h1 := itoa_size a
  have h2 := itoa_size b
  have e1 : (⟨#[32]⟩ : ByteArray).size = 1 := rfl
  have e2 : (⟨#[62]⟩ : ByteArray).size = 1 := rfl
  simp only [it1, ByteArray.size_append, e1, e2]
  omega
theorem it2_size (h t : Nat) (c : Int) : (it2 h t c).size ≤ 66 := by
  have h1 := itoa_size h
  have h2 := itoa_size t
  have h3 := itoa_size c
  have e1 : (⟨#[32]⟩ : ByteArray).size = 1 := rfl
  have e2 : (⟨#[47]⟩ : ByteArray).size = 1 := rfl
  have e3 : (⟨#[58]⟩ : ByteArray).size = 1 := rfl
  simp only [it2, ByteArray.size_append, e1, e2, e3]
  omega
theorem gL_size (a : Nat) : ∀ (l : List Nat) (s : ByteArray), (gL a l s).size ≤ s.size + 44 * l.length
  | [], s => by simp [gL]
  | b :: l, s => by
    have h1 := gL_size a l (s ++ it1 a b)
    have h2 := it1_size a b
    simp only [ByteArray.size_append] at h1
    have e : gL a (b :: l) s = gL a l (s ++ it1 a b) := rfl
    rw [e, List.length_cons]
    omega
theorem hL_size (cn : Nat → Int) (t : Nat) : ∀ (l : List Nat) (s : ByteArray), (hL cn t l s).size ≤ s.size + 66 * l.length
  | [], s => by simp [hL]
  | b :: l, s => by
    have h1 := hL_size cn t l (s ++ it2 b t (cn (rj b t)))
    have h2 := it2_size b t (cn (rj b t))
    simp only [ByteArray.size_append] at h1
    have e : hL cn t (b :: l) s = hL cn t l (s ++ it2 b t (cn (rj b t))) := rfl
    rw [e, List.length_cons]
    omega
theorem sl_len (A : Nat → List Nat) (a : Nat) : (sl A a).length ≤ 8 := by
  have := List.length_filter_le (fun b => (A a).contains b) (List.range 8)
  simpa [sl] using this
theorem gS_size (A : Nat → List Nat) : ∀ a, (gS A a).size ≤ 1 + 352 * a
  | 0 => by simp only [gS]; decide
  | a + 1 => by
    have h1 := gS_size A a
    have h2 := gL_size a (sl A a) (gS A a)
    have h3 := sl_len A a
    rw [gS]
    omega
theorem hQ_size (cn : Nat → Int) (s : ByteArray) : ∀ t, (hQ cn s t).size ≤ s.size + 66 * (t * t)
  | 0 => by simp [hQ]
  | t + 1 => by
    have h1 := hQ_size cn s t
    have h2 := hL_size cn t ((List.range (t + 1)).filter (hP cn t)) (hQ cn s t)
    have h3 := List.length_filter_le (hP cn t) (List.range (t + 1))
    simp at h3
    rw [hQ]
    have h4 : (t + 1) * (t + 1) = t * t + 2 * t + 1 := by rw [Nat.add_mul, Nat.mul_add]; omega
    omega

theorem gL_take {a : Nat} {l : List Nat} {j : Nat} (hj : j < l.length) (s : ByteArray) : gL a (l.take (j + 1)) s = gL a (l.take j) s ++ it1 a l[j] := by
  unfold gL
  rw [← List.take_append_getElem hj, List.foldl_append]
  rfl
theorem filter_range_succ (p : Nat → Bool) (b : Nat) : (List.range (b + 1)).filter p = (List.range b).filter p ++ if p b = true then [b] else [] := by
  rw [List.range_succ, List.filter_append]
  congr 1
  by_cases h : p b = true <;> simp [h]
theorem gL_step (a : Nat) (p : Nat → Bool) (b : Nat) (s : ByteArray) : gL a ((List.range (b + 1)).filter p) s = if p b = true then gL a ((List.range b).filter p) s ++ it1 a b else gL a ((List.range b).filter p) s := by
  unfold gL
  rw [filter_range_succ, List.foldl_append]
  split <;> rfl
theorem hL_step (cn : Nat → Int) (t : Nat) (p : Nat → Bool) (h : Nat) (s : ByteArray) : hL cn t ((List.range (h + 1)).filter p) s = if p h = true then hL cn t ((List.range h).filter p) s ++ it2 h t (cn (rj h t)) else hL cn t ((List.range h).filter p) s := by
  unfold hL
  rw [filter_range_succ, List.foldl_append]
  split <;> rfl
theorem hQ_one (cn : Nat → Int) (s : ByteArray) : hQ cn s 1 = s := by
  simp [hQ, hP, low, hL, List.range_succ]

theorem sl_strict (A : Nat → List Nat) (a : Nat) : (sl A a).Pairwise (· < ·) := (range_strict 8).filter _
theorem mem_sl {A : Nat → List Nat} (h : AOk A) {a x : Nat} : x ∈ A a ↔ x ∈ sl A a := by
  unfold sl
  rw [List.mem_filter]
  simp
  exact fun hx => h.lt a x hx
theorem sl_length {A : Nat → List Nat} (h : AOk A) (a : Nat) : (sl A a).length = (A a).length := by
  have h1 := nodup_sub_length (h.one a) (fun x hx => (mem_sl h).1 hx)
  have h2 := nodup_sub_length (l := sl A a) ((sl_strict A a).imp (fun hab => by omega)) (fun x hx => (mem_sl h).2 hx)
  omega

set_option maxRecDepth 4000 in
theorem sortedN_calls (w : World) : Calls Try.prog 43 #[.slice none 0 0] w fun e w' => e = .returned (.slice none 0 0) ∧ Chg [] w w' := by
  go_enter Try.func43, Try.ntmps43
  go_wp2_with fail
  go_loopw [3, 4] (fun v3 _ wr => v3 = .int .i64 1 ∧ wr = w) (fun _ _ _ => 0)
  case atStart => exact ⟨rfl, rfl⟩
  case round =>
    obtain ⟨rfl, rfl⟩ := hrel
    go_wp2
    go_ret
    exact ⟨rfl, Chg.refl _ _⟩
end Go.Proofs.Qxb6500374a.W
