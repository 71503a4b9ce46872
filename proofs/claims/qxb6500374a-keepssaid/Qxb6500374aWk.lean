import Derived.Test.Qxb6500374aSr
set_option linter.unusedVariables false
set_option linter.unusedSimpArgs false
namespace Go.Proofs.Qxb6500374a.W
open Go.RowKit Go.Maps

/-- The bits of the seven rates that are numbers: 0, 1, 1/2, 1/3, 2/3, 1/4, 3/4. -/
def fb : Nat → Nat
  | 0 => 0
  | 1 => 0x3FF0000000000000
  | 2 => 0x3FE0000000000000
  | 3 => 0x3FD5555555555555
  | 4 => 0x3FE5555555555555
  | 5 => 0x3FD0000000000000
  | _ => 0x3FE8000000000000

def ord (a b : Nat) : Option Ordering := FloatKind.f64.format.order a b
def NaNb (b : Nat) : Prop := ∀ x, ord b x = none ∧ ord x b = none

theorem ord_fb : ∀ i, i < 7 → ∀ j, j < 7 → (ord (fb i) (fb j) == some .eq) = decide (i = j) := by
  have h : ((List.range 7).all fun i => (List.range 7).all fun j => (ord (fb i) (fb j) == some .eq) == decide (i = j)) = true := by kernel_rfl
  intro i hi j hj
  rw [List.all_eq_true] at h
  have h2 := h i (List.mem_range.2 hi)
  rw [List.all_eq_true] at h2
  exact eq_of_beq (h2 j (List.mem_range.2 hj))

/-- An entry's class: which number; 7: none. -/
def kb (e : MapEntry) : Nat := match e.key with | .float _ b => b | _ => 0
def clB (b : Nat) : Nat := if b = fb 0 then 0 else if b = fb 1 then 1 else if b = fb 2 then 2 else if b = fb 3 then 3 else if b = fb 4 then 4 else if b = fb 5 then 5 else if b = fb 6 then 6 else 7
def clE (e : MapEntry) : Nat := clB (kb e)

theorem clB_fb : ∀ j, j < 7 → clB (fb j) = j := by
  intro j hj
  have : j = 0 ∨ j = 1 ∨ j = 2 ∨ j = 3 ∨ j = 4 ∨ j = 5 ∨ j = 6 := by omega
  rcases this with rfl | rfl | rfl | rfl | rfl | rfl | rfl <;> decide

theorem clB_nan {b : Nat} (h : NaNb b) : clB b = 7 := by
  have : ∀ j, j < 7 → b ≠ fb j := by
    intro j hj e
    have h1 := ord_fb j hj j hj
    rw [← e, (h b).1] at h1
    simp at h1
  unfold clB
  rw [if_neg (this 0 (by omega)), if_neg (this 1 (by omega)), if_neg (this 2 (by omega)), if_neg (this 3 (by omega)), if_neg (this 4 (by omega)), if_neg (this 5 (by omega)), if_neg (this 6 (by omega))]

/-- The histogram's entries. -/
structure HOk (es : Array MapEntry) (clock : Nat) (cn : Nat → Int) (nn : Nat) : Prop where
  each : ∀ e ∈ es.toList, (clE e < 7 ∧ e.key = .float .f64 (fb (clE e)) ∧ e.val = .int .i64 (cn (clE e)) ∧ 0 < cn (clE e)) ∨ (clE e = 7 ∧ ∃ b, e.key = .float .f64 b ∧ NaNb b ∧ e.val = .int .i64 1)
  one : ∀ j, j < 7 → (es.toList.map clE).count j = if 0 < cn j then 1 else 0
  nan : (es.toList.map clE).count 7 = nn
  pos : ∀ j, j < 7 → 0 ≤ cn j
  born : ∀ e ∈ es.toList, e.born < clock
  stamp : (es.toList.map (·.born)).Nodup

def HistAt (w : World) (ph : Nat) (cn : Nat → Int) (nn : Nat) : Prop := ∃ es clock, w.heap[ph]? = some (.map es clock) ∧ HOk es clock cn nn

theorem HistAt.chg {w w' : World} {bs : List Nat} {ph : Nat} {cn : Nat → Int} {nn : Nat} (h : HistAt w ph cn nn) (hc : Chg bs w w') (hn : ph ∉ bs) : HistAt w' ph cn nn := by
  obtain ⟨es, c, h1, h2⟩ := h
  exact ⟨es, c, hc.keep h1 hn, h2⟩

def one1 (x : Int) : Nat := if 0 < x then 1 else 0
/-- How many numbers have an entry. -/
def nums (cn : Nat → Int) : Nat := one1 (cn 0) + one1 (cn 1) + one1 (cn 2) + one1 (cn 3) + one1 (cn 4) + one1 (cn 5) + one1 (cn 6)

theorem count_sum : ∀ (l : List Nat), (∀ x ∈ l, x < 8) → l.length = l.count 0 + l.count 1 + l.count 2 + l.count 3 + l.count 4 + l.count 5 + l.count 6 + l.count 7
  | [], _ => by simp
  | a :: l, h => by
    have ih := count_sum l (fun x hx => h x (by simp [hx]))
    have ha : a = 0 ∨ a = 1 ∨ a = 2 ∨ a = 3 ∨ a = 4 ∨ a = 5 ∨ a = 6 ∨ a = 7 := by have := h a (by simp); omega
    rcases ha with rfl | rfl | rfl | rfl | rfl | rfl | rfl | rfl <;> simp [List.count_cons] <;> omega

theorem HOk.size {es : Array MapEntry} {c : Nat} {cn : Nat → Int} {nn : Nat} (h : HOk es c cn nn) : es.size = nums cn + nn := by
  have hl : ∀ x ∈ es.toList.map clE, x < 8 := by
    intro x hx
    obtain ⟨e, he, rfl⟩ := List.mem_map.1 hx
    rcases h.each e he with h1 | h1 <;> omega
  have hc := count_sum _ hl
  rw [h.one 0 (by omega), h.one 1 (by omega), h.one 2 (by omega), h.one 3 (by omega), h.one 4 (by omega), h.one 5 (by omega), h.one 6 (by omega), h.nan] at hc
  simp only [List.length_map, Array.length_toList] at hc
  unfold nums one1
  exact hc

/-- The desk, plainly. -/
structure WS where
  A : Nat → List Nat
  cn : Nat → Int
  nn : Nat
  rd : Int

structure WS.ok (S : WS) : Prop where
  aok : AOk S.A
  small : nums S.cn + S.nn ≤ 10

/-- The desk, as it lies. -/
structure WAt (w : World) (px pa ph : Nat) (B C : Nat → Nat) (S : WS) : Prop where
  row : w.heap[px]? = some (.cells (workCells pa ph S.rd false) 42 (0, 0))
  adj : AdjAt w pa S.A B C
  hist : HistAt w ph S.cn S.nn
  ap1 : px ∉ pa :: ph :: adjB S.A B
  ap2 : ph ∉ pa :: adjB S.A B

def wb (px pa ph : Nat) (A : Nat → List Nat) (B : Nat → Nat) : List Nat := px :: pa :: ph :: adjB A B

theorem WAt.chg {w w' : World} {bs : List Nat} {px pa ph : Nat} {B C : Nat → Nat} {S : WS} (h : WAt w px pa ph B C S) (hA : AOk S.A) (hc : Chg bs w w') (hn : ∀ x ∈ wb px pa ph S.A B, x ∉ bs) : WAt w' px pa ph B C S :=
  ⟨hc.keep h.row (hn px (by simp [wb])), h.adj.chg hA hc (fun x hx => hn x (by rcases List.mem_cons.1 hx with rfl | hx <;> simp [wb, *])), h.hist.chg hc (hn ph (by simp [wb])), h.ap1, h.ap2⟩

theorem WAt.lt {w : World} {px pa ph : Nat} {B C : Nat → Nat} {S : WS} (h : WAt w px pa ph B C S) (hA : AOk S.A) : ∀ x ∈ wb px pa ph S.A B, x < w.heap.size := by
  intro x hx
  unfold wb at hx
  rcases List.mem_cons.1 hx with rfl | hx
  · exact lt_of h.row
  rcases List.mem_cons.1 hx with rfl | hx
  · obtain ⟨es, c, h1, _⟩ := h.adj.map
    exact lt_of h1
  rcases List.mem_cons.1 hx with rfl | hx
  · obtain ⟨es, c, h1, _⟩ := h.hist
    exact lt_of h1
  · obtain ⟨k, hk, rfl⟩ := (mem_adjB hA).1 hx
    exact (h.adj.row k hk).lt

/-- What a step of the desk leaves. -/
structure WStp (px pa ph : Nat) (B C : Nat → Nat) (S S' : WS) (w w' : World) : Prop where
  ex : ∃ B' C', WAt w' px pa ph B' C' S' ∧ ∀ x ∈ wb px pa ph S'.A B', x ∈ wb px pa ph S.A B ∨ w.heap.size ≤ x
  chg : Chg (wb px pa ph S.A B) w w'

theorem WStp.same {w w' : World} {px pa ph : Nat} {B C : Nat → Nat} {S : WS} (h : WAt w px pa ph B C S) (hA : AOk S.A) (hc : Chg [] w w') : WStp px pa ph B C S S w w' :=
  ⟨⟨B, C, h.chg hA hc (by simp), fun x hx => Or.inl hx⟩, hc.any⟩

set_option maxRecDepth 4000 in
theorem node_calls (a : Int) (w : World) : Calls Try.prog 39 #[.int .i64 a] w fun e w' => e = .returned (.bool (decide (0 ≤ a) && decide (a < 8))) ∧ w' = w := by
  by_cases h0 : 0 ≤ a
  · by_cases h8 : a < 8
    · have d : (decide (0 ≤ a) && decide (a < 8)) = true := by simp [h0, h8]
      rw [d]
      clear d
      go_enter Try.func39, Try.ntmps39
      go_wp2
      go_ret
      exact ⟨rfl, rfl⟩
    · have d : (decide (0 ≤ a) && decide (a < 8)) = false := by simp [h8]
      rw [d]
      clear d
      go_enter Try.func39, Try.ntmps39
      go_wp2
      go_ret
      exact ⟨rfl, rfl⟩
  · have d : (decide (0 ≤ a) && decide (a < 8)) = false := by simp [h0]
    rw [d]
    clear d
    go_enter Try.func39, Try.ntmps39
    go_wp2
    go_ret
    exact ⟨rfl, rfl⟩

/-- Where b stands, from i on. -/
def findT (l : List Nat) (b : Int) : Nat → Nat → Int
  | 0, _ => -1
  | n + 1, i => if (l.getD i 0 : Int) = b then i else findT l b n (i + 1)
def findS (l : List Nat) (b : Int) : Int := findT l b l.length 0

set_option maxHeartbeats 1000000 in
set_option maxRecDepth 4000 in
theorem find_calls {w : World} {lp : Option Addr} {cap : Nat} {l : List Nat} (h : l = [] ∨ ∃ b, lp = some ⟨b, 0, none⟩ ∧ RowAt w b l cap) (hl : l.length < 100) (b : Int) :
    Calls Try.prog 40 #[.slice lp l.length cap, .int .i64 b] w fun e w' => e = .returned (.int .i64 (findS l b)) ∧ w' = w := by
  have H : Hid (l = [] ∨ ∃ b, lp = some ⟨b, 0, none⟩ ∧ RowAt w b l cap) := h
  clear h
  go_enter Try.func40, Try.ntmps40
  go_wp2_with fail
  go_loopw [9] (fun v9 wr => ∃ j : Nat, j ≤ l.length ∧ v9 = .int .i64 j ∧ findT l b (l.length - j) j = findS l b ∧ wr = w) (fun v9 _ => ((l.length : Int) - intOf v9).toNat)
  case atStart => exact ⟨0, Nat.zero_le _, rfl, rfl, rfl⟩
  case round =>
    obtain ⟨j, hj, rfl, hf, rfl⟩ := hrel
    have HF : Hid (findT l b (l.length - j) j = findS l b) := hf
    clear hf
    by_cases hjl : j < l.length
    · have d1 : decide (j < l.length) = true := by simpa using hjl
      rcases H.out with h0 | ⟨bb, rfl, hrow⟩
      · rw [h0] at hjl; simp at hjl
      · have hcell := hrow.cell hjl
        have eg : l.getD j 0 = l[j] := by simp [List.getD_eq_getElem?_getD, List.getElem?_eq_getElem hjl]
        have e1 : l.length - j = (l.length - (j + 1)) + 1 := by omega
        by_cases hb : ((l[j] : Nat) : Int) = b
        · have E : Hid (findS l b = j) := by show findS l b = _; rw [← HF.out, e1, findT, eg, if_pos hb]
          have d2 : (((l[j] : Nat) : Int) == b) = true := by rw [beq_iff_eq]; exact hb
          clear eg hrow e1 hb
          generalize l[j] = m at *
          go_wp2
          go_ret
          rw [E.out]
          exact ⟨rfl, rfl⟩
        · have E : Hid (findT l b (l.length - (j + 1)) (j + 1) = findS l b) := by show findT _ _ _ _ = findS l b; rw [← HF.out, e1, findT, eg, if_neg hb]
          have d2 : (((l[j] : Nat) : Int) == b) = false := beq_eq_false_iff_ne.2 hb
          clear eg hrow e1 hb
          generalize l[j] = m at *
          go_wp2
          exact ⟨⟨j + 1, by omega, by simp, E.out, trivial⟩, by simp [intOf]; omega⟩
    · have d1 : decide (j < l.length) = false := by simpa using hjl
      have E : Hid (findS l b = -1) := by show findS l b = _; rw [← HF.out, show l.length - j = 0 by omega, findT]
      go_wp2
      go_ret
      rw [E.out]
      exact ⟨rfl, rfl⟩

theorem findT_spec (l : List Nat) (b : Int) : ∀ n i, i + n = l.length → ((findT l b n i = -1 ∧ ∀ j, i ≤ j → (h : j < l.length) → (l[j] : Int) ≠ b) ∨ ∃ j, ∃ h : j < l.length, findT l b n i = j ∧ i ≤ j ∧ (l[j] : Int) = b ∧ ∀ m, i ≤ m → m < j → (h : m < l.length) → (l[m] : Int) ≠ b)
  | 0, i, h => Or.inl ⟨rfl, fun j hj hl => by omega⟩
  | n + 1, i, h => by
    have hi : i < l.length := by omega
    have eg : l.getD i 0 = l[i] := by simp [List.getD_eq_getElem?_getD, List.getElem?_eq_getElem hi]
    rw [findT, eg]
    by_cases e : ((l[i] : Nat) : Int) = b
    · rw [if_pos e]
      exact Or.inr ⟨i, hi, rfl, Nat.le_refl _, e, fun m h1 h2 => by omega⟩
    · rw [if_neg e]
      rcases findT_spec l b n (i + 1) (by omega) with ⟨h1, h2⟩ | ⟨j, hj, h1, h2, h3, h4⟩
      · refine Or.inl ⟨h1, fun j hj hl => ?_⟩
        by_cases ej : j = i
        · subst ej; exact e
        · exact h2 j (by omega) hl
      · refine Or.inr ⟨j, hj, h1, by omega, h3, fun m hm1 hm2 hl => ?_⟩
        by_cases ej : m = i
        · subst ej; exact e
        · exact h4 m (by omega) hm2 hl

theorem findS_spec (l : List Nat) (b : Nat) : (findS l b = -1 ∧ b ∉ l) ∨ ∃ j, ∃ h : j < l.length, findS l b = j ∧ l[j] = b ∧ ∀ m, m < j → (h : m < l.length) → l[m] ≠ b := by
  rcases findT_spec l b l.length 0 (by omega) with ⟨h1, h2⟩ | ⟨j, hj, h1, _, h3, h4⟩
  · refine Or.inl ⟨h1, fun hm => ?_⟩
    obtain ⟨j, hj, e⟩ := List.getElem_of_mem hm
    exact h2 j (by omega) hj (by rw [e])
  · exact Or.inr ⟨j, hj, h1, by omega, fun m hm hl e => h4 m (by omega) hm hl (by rw [e])⟩
end Go.Proofs.Qxb6500374a.W
