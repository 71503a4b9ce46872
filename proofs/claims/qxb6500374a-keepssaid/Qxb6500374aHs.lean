import Derived.Test.Qxb6500374aRa
set_option linter.unusedVariables false
set_option linter.unusedSimpArgs false
namespace Go.Proofs.Qxb6500374a.W
open Go.RowKit Go.Maps
open Go.ChangeMaps (setBlock)

def upd (cn : Nat → Int) (j : Nat) (x : Int) : Nat → Int := fun i => if i = j then x else cn i
theorem upd_same (cn : Nat → Int) (j : Nat) (x : Int) : upd cn j x j = x := by simp [upd]
theorem upd_ne (cn : Nat → Int) {j i : Nat} (x : Int) (h : i ≠ j) : upd cn j x i = cn i := by simp [upd, h]

theorem check50' (em : Bool) (n b : Nat) (w : World) : (Instr.checkKey em (n + 1) 50 (.float .f64 b)).run Try.prog w = .ok () w := by
  simp [Instr.checkKey, run_underlying Try.underlying50]
theorem check50 (em : Bool) (b : Nat) (w : World) : (Instr.checkKey em 10000 50 (.float .f64 b)).run Try.prog w = .ok () w := check50' em 9999 b w

/-- Where a key is found. -/
def fnd (b : Nat) : List MapEntry → Nat → Option (Nat × Value)
  | [], _ => none
  | e :: es, i => if ord b (kb e) == some .eq then some (i, e.val) else fnd b es (i + 1)

theorem eq50 (a b : Nat) (w : World) : (Op.equal 50 (.float .f64 a) (.float .f64 b)).run Try.prog w = .ok (ord a b == some .eq) w := eqF _ a b w

theorem asking (b : Nat) (w : World) : ∀ (l : List MapEntry) (i : Nat), (∀ e ∈ l, e.key = .float .f64 (kb e)) → (Instr.findAsking 50 (.float .f64 b) l i).run Try.prog w = .ok (fnd b l i) w
  | [], i, _ => by simp [Instr.findAsking, fnd]
  | e :: es, i, h => by
    rw [Instr.findAsking, fnd]
    rw [h e (by simp)]
    simp only [Sem.run_bind, eq50, Result.andThen_ok]
    cases ho : (ord b (kb e) == some .eq) with
    | true => simp
    | false =>
      simp
      exact asking b w es (i + 1) (fun x hx => h x (by simp [hx]))

theorem findF (b : Nat) (w : World) (l : List MapEntry) (h : ∀ e ∈ l, e.key = .float .f64 (kb e)) : (Instr.findKey 50 (.float .f64 b) l).run Try.prog w = .ok (fnd b l 0) w := by
  unfold Instr.findKey
  cases l with
  | nil => simp [run_underlying Try.underlying50, Instr.findNow, fnd]
  | cons e es =>
    have : Instr.findNow (.float .f64) (.float .f64 b) (e :: es) 0 = none := by
      simp [Instr.findNow, Instr.sameNow]
    simp only [Sem.run_bind, run_underlying Try.underlying50, Result.andThen_ok, this]
    exact asking b w (e :: es) 0 h

theorem fnd_spec (b : Nat) : ∀ (l : List MapEntry) (i : Nat), (fnd b l i = none ∧ ∀ e ∈ l, (ord b (kb e) == some .eq) = false) ∨ ∃ k e, fnd b l i = some (i + k, e.val) ∧ l[k]? = some e ∧ (ord b (kb e) == some .eq) = true
  | [], i => Or.inl ⟨rfl, by simp⟩
  | e :: es, i => by
    rw [fnd]
    cases ho : (ord b (kb e) == some .eq) with
    | true => exact Or.inr ⟨0, e, by simp, by simp, ho⟩
    | false =>
      rcases fnd_spec b es (i + 1) with ⟨h1, h2⟩ | ⟨k, x, h1, h2, h3⟩
      · refine Or.inl ⟨by simp [h1], fun x hx => ?_⟩
        rcases List.mem_cons.1 hx with rfl | hx
        · exact ho
        · exact h2 x hx
      · exact Or.inr ⟨k + 1, x, by simp [h1]; omega, by simp [h2], h3⟩

theorem HOk.keyF {es : Array MapEntry} {c : Nat} {cn : Nat → Int} {nn : Nat} (h : HOk es c cn nn) : ∀ e ∈ es.toList, e.key = .float .f64 (kb e) := by
  intro e he
  rcases h.each e he with ⟨_, h2, _⟩ | ⟨_, b, h2, _⟩ <;> simp [kb, h2]

theorem count_zero {α : Type} {f : α → Nat} {l : List α} {j : Nat} (h : (l.map f).count j = 0) : ∀ e ∈ l, f e ≠ j := by
  intro e he hj
  have : j ∈ l.map f := by rw [← hj]; exact List.mem_map_of_mem he
  have := List.count_pos_iff.2 this
  omega

/-- A number is looked for. -/
theorem HOk.find {es : Array MapEntry} {c : Nat} {cn : Nat → Int} {nn : Nat} (h : HOk es c cn nn) {j : Nat} (hj : j < 7) (w : World) :
    (cn j = 0 ∧ (Instr.findKey 50 (.float .f64 (fb j)) es.toList).run Try.prog w = .ok none w) ∨
    ∃ k e, 0 < cn j ∧ (Instr.findKey 50 (.float .f64 (fb j)) es.toList).run Try.prog w = .ok (some (k, .int .i64 (cn j))) w ∧ es.toList[k]? = some e ∧ clE e = j ∧ e.key = .float .f64 (fb j) := by
  rw [findF _ w _ h.keyF]
  rcases fnd_spec (fb j) es.toList 0 with ⟨h1, h2⟩ | ⟨k, e, h1, h2, h3⟩
  · left
    refine ⟨?_, by rw [h1]⟩
    have h1 := h.one j hj
    by_cases hp : 0 < cn j
    · exfalso
      rw [if_pos hp] at h1
      have : j ∈ es.toList.map clE := List.count_pos_iff.1 (by omega)
      obtain ⟨e, he, hc⟩ := List.mem_map.1 this
      have := h2 e he
      rcases h.each e he with ⟨_, hk, _⟩ | ⟨hk, _⟩
      · have hkb : kb e = fb j := by simp [kb, hk, hc]
        rw [hkb, ord_fb j hj j hj] at this
        simp at this
      · omega
    · have := h.pos j hj
      omega
  · right
    have he := List.mem_of_getElem? h2
    rcases h.each e he with ⟨hc, hk, hv, hpos⟩ | ⟨hc, b, hk, hnan, _⟩
    · have hkb : kb e = fb (clE e) := by simp [kb, hk]
      rw [hkb, ord_fb j hj _ hc] at h3
      have : j = clE e := by simpa using h3
      subst this
      exact ⟨k, e, hpos, by rw [h1, hv]; simp, h2, rfl, hk⟩
    · have hkb : kb e = b := by simp [kb, hk]
      rw [hkb, (hnan _).2] at h3
      simp at h3

/-- What is no number is looked for. -/
theorem HOk.findNan {es : Array MapEntry} {c : Nat} {cn : Nat → Int} {nn : Nat} (h : HOk es c cn nn) {b : Nat} (hb : NaNb b) (w : World) :
    (Instr.findKey 50 (.float .f64 b) es.toList).run Try.prog w = .ok none w := by
  rw [findF _ w _ h.keyF]
  rcases fnd_spec b es.toList 0 with ⟨h1, h2⟩ | ⟨k, e, h1, h2, h3⟩
  · rw [h1]
  · rw [(hb _).1] at h3
    simp at h3

theorem zero3 (w : World) : (zeroValue 3).run Try.prog w = .ok (.int .i64 0) w := by kernel_rfl

theorem HistAt.look {w : World} {ph : Nat} {cn : Nat → Int} {nn : Nat} (h : HistAt w ph cn nn) {j : Nat} (hj : j < 7) :
    (Instr.lookup 40 (.map (some ph)) (.float .f64 (fb j)) false).run Try.prog w = .ok (.int .i64 (cn j)) w ∧
    (Instr.lookup 40 (.map (some ph)) (.float .f64 (fb j)) true).run Try.prog w = .ok (.tuple #[.int .i64 (cn j), .bool (decide (0 < cn j))]) w := by
  obtain ⟨es, c, hb, hok⟩ := h
  rcases hok.find hj w with ⟨h0, h1⟩ | ⟨k, e, h0, h1, _⟩
  · constructor <;> simp [Instr.lookup, run_underlying Try.underlying40, MapKept.run_getObj_map hb, check50, h1, Result.andThen, zero3, h0]
  · constructor <;> simp [Instr.lookup, run_underlying Try.underlying40, MapKept.run_getObj_map hb, check50, h1, Result.andThen, h0]

theorem HistAt.lookNan {w : World} {ph : Nat} {cn : Nat → Int} {nn : Nat} (h : HistAt w ph cn nn) {b : Nat} (hn : NaNb b) :
    (Instr.lookup 40 (.map (some ph)) (.float .f64 b) false).run Try.prog w = .ok (.int .i64 0) w ∧
    (Instr.lookup 40 (.map (some ph)) (.float .f64 b) true).run Try.prog w = .ok (.tuple #[.int .i64 0, .bool false]) w := by
  obtain ⟨es, c, hb, hok⟩ := h
  have h1 := hok.findNan hn w
  constructor <;> simp [Instr.lookup, run_underlying Try.underlying40, MapKept.run_getObj_map hb, check50, h1, Result.andThen, zero3]

theorem HistAt.len {w : World} {ph : Nat} {cn : Nat → Int} {nn : Nat} (h : HistAt w ph cn nn) (ty : TypeId) : (Builtin.len_ #[40] ty #[.map (some ph)]).run Try.prog w = .ok (.int .i64 ((nums cn + nn : Nat) : Int)) w := by
  obtain ⟨es, c, hb, hok⟩ := h
  rw [run_len hb Try.underlying40, hok.size]

theorem count1_unique {α : Type} {f : α → Nat} {j : Nat} : ∀ {l : List α}, (l.map f).count j = 1 → ∀ {i k : Nat} {x y : α}, l[i]? = some x → l[k]? = some y → f x = j → f y = j → i = k
  | [], h, _, _, _, _, h1, _, _, _ => by simp at h1
  | a :: l, h, i, k, x, y, h1, h2, hx, hy => by
    rw [List.map_cons, List.count_cons] at h
    cases i with
    | zero =>
      simp at h1
      subst h1
      cases k with
      | zero => rfl
      | succ k =>
        simp at h2
        simp [hx] at h
        exact absurd hy (count_zero (by simpa using h) y (List.mem_of_getElem? h2))
    | succ i =>
      simp at h1
      cases k with
      | zero =>
        simp at h2
        subst h2
        simp [hy] at h
        exact absurd hx (count_zero (by simpa using h) x (List.mem_of_getElem? h1))
      | succ k =>
        simp at h2
        have hne : f a ≠ j := by
          intro e
          simp [e] at h
          exact absurd hx (count_zero (by simpa using h) x (List.mem_of_getElem? h1))
        have := count1_unique (l := l) (f := f) (j := j) (by simpa [hne] using h) h1 h2 hx hy
        omega

theorem mem_set {α : Type} {l : List α} {i : Nat} {a x : α} (h : x ∈ l.set i a) : x = a ∨ ∃ k, k ≠ i ∧ l[k]? = some x := by
  obtain ⟨k, hk, e⟩ := List.getElem_of_mem h
  rw [List.getElem_set] at e
  split at e
  · exact Or.inl e.symm
  · rename_i hne
    refine Or.inr ⟨k, fun e => hne e.symm, ?_⟩
    rw [List.getElem?_eq_getElem (by simpa using hk), e]

theorem map_set_same {α β : Type} {l : List α} {i : Nat} {a e : α} (f : α → β) (h : l[i]? = some e) (hf : f a = f e) : (l.set i a).map f = l.map f := by
  apply List.ext_getElem?
  intro k
  rw [List.getElem?_map, List.getElem?_map, List.getElem?_set]
  split
  · rename_i hik
    subst hik
    rw [if_pos (List.getElem?_eq_some_iff.1 h).1, h]
    simp [hf]
  · rfl

/-- A number's entry is set. -/
theorem HistAt.put {w : World} {ph : Nat} {cn : Nat → Int} {nn : Nat} (h : HistAt w ph cn nn) {j : Nat} (hj : j < 7) {x : Int} (hx : 0 < x) :
    ∃ w', (Instr.mapUpdate 40 (.map (some ph)) (.float .f64 (fb j)) (.int .i64 x)).run Try.prog w = .ok () w' ∧ HistAt w' ph (upd cn j x) nn ∧ Chg [ph] w w' := by
  obtain ⟨es, c, hb, hok⟩ := h
  rcases hok.find hj w with ⟨h0, h1⟩ | ⟨k, e, h0, h1, h2, h3, h4⟩
  · refine ⟨setBlock w ph (.map (es.push ⟨.float .f64 (fb j), .int .i64 x, c⟩) (c + 1)), ?_, ⟨_, _, ChangeMaps.heap_setBlock_same hb _, ?_⟩, Chg.setBlock _ hb⟩
    · simp [Instr.mapUpdate, run_underlying Try.underlying40, MapKept.run_getObj_map hb, check50, h1, Result.andThen, run_setObj_map hb]
    · have hcl : clE ⟨.float .f64 (fb j), .int .i64 x, c⟩ = j := by simp only [clE, kb]; exact clB_fb j hj
      have hno := hok.one j hj
      rw [if_neg (by omega)] at hno
      refine ⟨?_, ?_, ?_, ?_, ?_, ?_⟩
      · intro e he
        rw [Array.toList_push] at he
        rcases List.mem_append.1 he with he | he
        · have hne := count_zero hno e he
          rcases hok.each e he with ⟨a1, a2, a3, a4⟩ | hn
          · exact Or.inl ⟨a1, a2, by rw [upd_ne _ _ hne]; exact a3, by rw [upd_ne _ _ hne]; exact a4⟩
          · exact Or.inr hn
        · simp at he
          subst he
          rw [hcl]
          exact Or.inl ⟨hj, rfl, by rw [upd_same], by rw [upd_same]; exact hx⟩
      · intro i hi
        rw [Array.toList_push, List.map_append, List.count_append, hok.one i hi]
        simp only [List.map_cons, List.map_nil, hcl]
        by_cases hij : i = j
        · subst hij
          rw [upd_same, if_neg (by omega), if_pos hx]
          simp
        · rw [upd_ne _ _ hij, List.count_cons_of_ne (fun e => hij e.symm)]
          simp
      · rw [Array.toList_push, List.map_append, List.count_append, hok.nan]
        simp only [List.map_cons, List.map_nil, hcl]
        rw [List.count_cons_of_ne (by omega)]
        simp
      · intro i hi
        by_cases hij : i = j
        · subst hij; rw [upd_same]; omega
        · rw [upd_ne _ _ hij]; exact hok.pos i hi
      · intro e he
        rw [Array.toList_push] at he
        rcases List.mem_append.1 he with he | he
        · have := hok.born e he; omega
        · simp at he; subst he; exact Nat.lt_succ_self _
      · rw [Array.toList_push, List.map_append, List.nodup_append]
        refine ⟨hok.stamp, by simp, ?_⟩
        intro a ha b' hb'
        simp at hb'
        subst hb'
        obtain ⟨e, he, rfl⟩ := List.mem_map.1 ha
        have := hok.born e he
        omega
  · have hg : es[k]? = some e := by rw [← h2, Array.getElem?_toList]
    have he' := modify_set (es := es) (j := k) (e := e) (e' := { e with val := .int .i64 x }) (fun e => { e with key := .float .f64 (fb j), val := .int .i64 x }) h2 (by rw [← h4])
    refine ⟨setBlock w ph (.map (es.modify k fun e => { e with key := .float .f64 (fb j), val := .int .i64 x }) c), ?_, ⟨_, _, ChangeMaps.heap_setBlock_same hb _, ?_⟩, Chg.setBlock _ hb⟩
    · have hst : (Instr.keyThatStays (.float .f64 (fb j)) (.float .f64 (fb j))).run Try.prog w = .ok (.float .f64 (fb j)) w := by
        simp [Instr.keyThatStays, Instr.sameBits]
      simp [Instr.mapUpdate, run_underlying Try.underlying40, MapKept.run_getObj_map hb, check50, h1, Result.andThen, run_setObj_map hb, hg, h4, hst]
    · have hone := hok.one j hj
      rw [if_pos h0] at hone
      have hmap : (es.modify k fun e => { e with key := .float .f64 (fb j), val := .int .i64 x }).toList.map clE = es.toList.map clE := by
        rw [he']; exact map_set_same clE h2 (by simp [clE, kb])
      have hmapb : (es.modify k fun e => { e with key := .float .f64 (fb j), val := .int .i64 x }).toList.map (·.born) = es.toList.map (·.born) := by
        rw [he']; exact map_set_same _ h2 rfl
      refine ⟨?_, ?_, ?_, ?_, ?_, ?_⟩
      · intro y hy
        rw [he'] at hy
        rcases mem_set hy with rfl | ⟨i, hi, hyi⟩
        · left
          have : clE { e with val := .int .i64 x } = j := by rw [← h3]; rfl
          rw [this, upd_same]
          exact ⟨hj, h4, rfl, hx⟩
        · have hne : clE y ≠ j := fun hc => hi (count1_unique hone hyi h2 hc h3)
          rcases hok.each y (List.mem_of_getElem? hyi) with ⟨a1, a2, a3, a4⟩ | hn
          · exact Or.inl ⟨a1, a2, by rw [upd_ne _ _ hne]; exact a3, by rw [upd_ne _ _ hne]; exact a4⟩
          · exact Or.inr hn
      · intro i hi
        rw [hmap, hok.one i hi]
        by_cases hij : i = j
        · subst hij; rw [upd_same, if_pos hx, if_pos h0]
        · rw [upd_ne _ _ hij]
      · rw [hmap, hok.nan]
      · intro i hi
        by_cases hij : i = j
        · subst hij; rw [upd_same]; omega
        · rw [upd_ne _ _ hij]; exact hok.pos i hi
      · intro y hy
        rw [he'] at hy
        rcases mem_set hy with rfl | ⟨i, hi, hyi⟩
        · exact hok.born e (List.mem_of_getElem? h2)
        · exact hok.born y (List.mem_of_getElem? hyi)
      · rw [hmapb]; exact hok.stamp

/-- What is no number gets a new entry. -/
theorem HistAt.putNan {w : World} {ph : Nat} {cn : Nat → Int} {nn : Nat} (h : HistAt w ph cn nn) {b : Nat} (hn : NaNb b) :
    ∃ w', (Instr.mapUpdate 40 (.map (some ph)) (.float .f64 b) (.int .i64 1)).run Try.prog w = .ok () w' ∧ HistAt w' ph cn (nn + 1) ∧ Chg [ph] w w' := by
  obtain ⟨es, c, hb, hok⟩ := h
  have h1 := hok.findNan hn w
  refine ⟨setBlock w ph (.map (es.push ⟨.float .f64 b, .int .i64 1, c⟩) (c + 1)), ?_, ⟨_, _, ChangeMaps.heap_setBlock_same hb _, ?_⟩, Chg.setBlock _ hb⟩
  · simp [Instr.mapUpdate, run_underlying Try.underlying40, MapKept.run_getObj_map hb, check50, h1, Result.andThen, run_setObj_map hb]
  · have hcl : clE ⟨.float .f64 b, .int .i64 1, c⟩ = 7 := by simp only [clE, kb]; exact clB_nan hn
    refine ⟨?_, ?_, ?_, hok.pos, ?_, ?_⟩
    · intro e he
      rw [Array.toList_push] at he
      rcases List.mem_append.1 he with he | he
      · exact hok.each e he
      · simp at he
        subst he
        exact Or.inr ⟨hcl, b, rfl, hn, rfl⟩
    · intro i hi
      rw [Array.toList_push, List.map_append, List.count_append, hok.one i hi]
      simp only [List.map_cons, List.map_nil, hcl]
      rw [List.count_cons_of_ne (by omega)]
      simp
    · rw [Array.toList_push, List.map_append, List.count_append, hok.nan]
      simp [hcl]
    · intro e he
      rw [Array.toList_push] at he
      rcases List.mem_append.1 he with he | he
      · have := hok.born e he; omega
      · simp at he; subst he; exact Nat.lt_succ_self _
    · rw [Array.toList_push, List.map_append, List.nodup_append]
      refine ⟨hok.stamp, by simp, ?_⟩
      intro a ha b' hb'
      simp at hb'
      subst hb'
      obtain ⟨e, he, rfl⟩ := List.mem_map.1 ha
      have := hok.born e he
      omega

theorem erase_split {α : Type} {l : List α} {k : Nat} {e : α} (h : l[k]? = some e) : l = l.take k ++ e :: l.drop (k + 1) ∧ l.eraseIdx k = l.take k ++ l.drop (k + 1) := by
  have hk := (List.getElem?_eq_some_iff.1 h).1
  have he := (List.getElem?_eq_some_iff.1 h).2
  constructor
  · rw [← he, List.getElem_cons_drop, List.take_append_drop]
  · exact List.eraseIdx_eq_take_drop_succ l k

/-- A number's entry goes. -/
theorem HOk.del {es : Array MapEntry} {c : Nat} {cn : Nat → Int} {nn : Nat} (hok : HOk es c cn nn) {j k : Nat} {e : MapEntry} (hj : j < 7) (h0 : 0 < cn j) (h2 : es.toList[k]? = some e) (h3 : clE e = j) {es' : Array MapEntry} (hes : es'.toList = es.toList.eraseIdx k) : HOk es' c (upd cn j 0) nn := by
  obtain ⟨e1, e2⟩ := erase_split h2
  have hone := hok.one j hj
  rw [if_pos h0] at hone
  have hsub : ∀ x, x ∈ es'.toList → ∃ i, i ≠ k ∧ es.toList[i]? = some x := by
    intro x hx
    rw [hes] at hx
    exact List.mem_eraseIdx_iff_getElem?.1 hx
  have hmem : ∀ x, x ∈ es'.toList → x ∈ es.toList ∧ clE x ≠ j := by
    intro x hx
    obtain ⟨i, hi, hg⟩ := hsub x hx
    exact ⟨List.mem_of_getElem? hg, fun hc => hi (count1_unique hone hg h2 hc h3)⟩
  have hcount : ∀ i, (es.toList.map clE).count i = (es'.toList.map clE).count i + if i = j then 1 else 0 := by
    intro i
    rw [hes, e2]
    conv => lhs; rw [e1]
    simp only [List.map_append, List.map_cons, List.count_append, List.count_cons, h3]
    by_cases hij : i = j
    · simp [hij]; omega
    · have : (j == i) = false := by simp; exact fun e => hij e.symm
      simp [hij, this]
  refine ⟨?_, ?_, ?_, ?_, ?_, ?_⟩
  · intro x hx
    obtain ⟨a1, a2⟩ := hmem x hx
    rw [upd_ne _ _ a2]
    exact hok.each x a1
  · intro i hi
    have := hcount i
    rw [hok.one i hi] at this
    by_cases hij : i = j
    · subst hij
      rw [if_pos h0, if_pos rfl] at this
      rw [upd_same, if_neg (by omega)]
      omega
    · rw [if_neg hij] at this
      rw [upd_ne _ _ hij]
      omega
  · have := hcount 7
    rw [hok.nan, if_neg (by omega)] at this
    omega
  · intro i hi
    by_cases hij : i = j
    · subst hij; rw [upd_same]; omega
    · rw [upd_ne _ _ hij]; exact hok.pos i hi
  · intro x hx; exact hok.born x (hmem x hx).1
  · rw [hes]; exact hok.stamp.sublist ((List.eraseIdx_sublist _ _).map _)

/-- 'delete' at a number. -/
theorem run_hdel {w : World} {ph : Nat} {es : Array MapEntry} {c : Nat} {cn : Nat → Int} {nn : Nat} (hb : w.heap[ph]? = some (.map es c)) (hok : HOk es c cn nn) {j : Nat} (hj : j < 7) :
    ∃ w' es', (∀ ty, (Builtin.delete_ #[40, 50] ty #[.map (some ph), .float .f64 (fb j)]).run Try.prog w = .ok (.tuple #[]) w') ∧ w'.heap[ph]? = some (.map es' c) ∧ HOk es' c (upd cn j 0) nn ∧ Chg [ph] w w' ∧
      (∀ x, x ∈ es'.toList ↔ x ∈ es.toList ∧ clE x ≠ j) := by
  rcases hok.find hj w with ⟨h0, h1⟩ | ⟨k, e, h0, h1, h2, h3, h4⟩
  · have hu : upd cn j 0 = cn := by funext i; unfold upd; split <;> simp_all
    refine ⟨setBlock w ph (.map es c), es, ?_, ChangeMaps.heap_setBlock_same hb _, by rw [hu]; exact hok, Chg.setBlock _ hb, ?_⟩
    · intro ty
      simp [Builtin.delete_, run_underlying Try.underlying40, MapKept.run_getObj_map hb, check50, h1, Result.andThen, run_setObj_map hb]
    · intro x
      have hno := hok.one j hj
      rw [if_neg (by omega)] at hno
      exact ⟨fun hx => ⟨hx, count_zero hno x hx⟩, fun hx => hx.1⟩
  · have hlt := (List.getElem?_eq_some_iff.1 h2).1
    have hs : k < es.size := by simpa using hlt
    have hes : (es.eraseIdxIfInBounds k).toList = es.toList.eraseIdx k := by rw [Array.eraseIdxIfInBounds, dif_pos hs, Array.toList_eraseIdx]
    refine ⟨setBlock w ph (.map (es.eraseIdxIfInBounds k) c), _, ?_, ChangeMaps.heap_setBlock_same hb _, hok.del hj h0 h2 h3 hes, Chg.setBlock _ hb, ?_⟩
    · intro ty
      simp [Builtin.delete_, run_underlying Try.underlying40, MapKept.run_getObj_map hb, check50, h1, Result.andThen, run_setObj_map hb]
    · intro x
      rw [hes, List.mem_eraseIdx_iff_getElem?]
      have hone := hok.one j hj
      rw [if_pos h0] at hone
      constructor
      · rintro ⟨i, hi, hg⟩
        exact ⟨List.mem_of_getElem? hg, fun hc => hi (count1_unique hone hg h2 hc h3)⟩
      · rintro ⟨hx, hne⟩
        obtain ⟨i, hi, e'⟩ := List.getElem_of_mem hx
        refine ⟨i, fun hik => hne ?_, by rw [List.getElem?_eq_getElem hi, e']⟩
        subst hik
        rw [List.getElem?_eq_getElem hi, e'] at h2
        cases h2
        exact h3

/-- 'delete' at what is no number: nothing goes. -/
theorem run_hdelNan {w : World} {ph : Nat} {es : Array MapEntry} {c : Nat} {cn : Nat → Int} {nn : Nat} (hb : w.heap[ph]? = some (.map es c)) (hok : HOk es c cn nn) {b : Nat} (hn : NaNb b) :
    ∃ w', (∀ ty, (Builtin.delete_ #[40, 50] ty #[.map (some ph), .float .f64 b]).run Try.prog w = .ok (.tuple #[]) w') ∧ w'.heap[ph]? = some (.map es c) ∧ Chg [ph] w w' := by
  have h1 := hok.findNan hn w
  refine ⟨setBlock w ph (.map es c), ?_, ChangeMaps.heap_setBlock_same hb _, Chg.setBlock _ hb⟩
  intro ty
  simp [Builtin.delete_, run_underlying Try.underlying40, MapKept.run_getObj_map hb, check50, h1, Result.andThen, run_setObj_map hb]

theorem run_hclear {w : World} {ph : Nat} {cn : Nat → Int} {nn : Nat} (h : HistAt w ph cn nn) :
    ∃ w', (∀ ty, (Builtin.clear_ #[40] ty #[.map (some ph)]).run Try.prog w = .ok (.tuple #[]) w') ∧ HistAt w' ph (fun _ => 0) 0 ∧ Chg [ph] w w' := by
  obtain ⟨es, c, hb, hok⟩ := h
  refine ⟨setBlock w ph (.map #[] c), ?_, ⟨_, _, ChangeMaps.heap_setBlock_same hb _, ?_⟩, Chg.setBlock _ hb⟩
  · intro ty
    simp [Builtin.clear_, run_underlying Try.underlying40, MapKept.run_getObj_map hb, Result.andThen, run_setObj_map hb]
  · exact ⟨by simp, by simp, by simp, by simp, by simp, by simp⟩
end Go.Proofs.Qxb6500374a.W
