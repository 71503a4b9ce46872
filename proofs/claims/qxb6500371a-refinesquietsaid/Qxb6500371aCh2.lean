import Derived.Test.Qxb6500371aCh
set_option linter.unusedVariables false
set_option linter.unusedSimpArgs false
namespace Go.Proofs.Qxb6500371a.W
open Go.RowKit Go.Maps

/-- What a step leaves. -/
structure Stp (px pm mp : Nat) (S S' : RS) (w w' : World) : Prop where
  at_ : ChainAt w' px pm mp S'
  chg : Chg (px :: bl pm mp S.ls) w w'
  blk : ∀ x ∈ bl pm mp S'.ls, x ∈ bl pm mp S.ls ∨ w.heap.size ≤ x

theorem Stp.of {w w' : World} {px pm mp : Nat} {S : RS} (h : ChainAt w px pm mp S) (n : Nat) {b : List Layer} {m' : MS} (hs : b.map Layer.sh = (subL S.ls n).map Layer.sh) (hb : StackAt w' pm mp m' b) (hc : Chg (bl pm mp (subL S.ls n)) w w') :
    Stp px pm mp S ⟨m', replL S.ls n b, S.held⟩ w w' :=
  ⟨(h.step n hs hb hc).1, (h.step n hs hb hc).2, fun x hx => by
    have e : bl pm mp (replL S.ls n b) = bl pm mp S.ls := bl_sh (repl_sh hs)
    have hx' : x ∈ bl pm mp (replL S.ls n b) := hx
    rw [e] at hx'
    exact Or.inl hx'⟩

theorem Stp.ofTop {w w' : World} {px pm mp : Nat} {S : RS} (h : ChainAt w px pm mp S) {b : List Layer} {m' : MS} (hs : b.map Layer.sh = S.ls.map Layer.sh) (hb : StackAt w' pm mp m' b) (hc : Chg (bl pm mp S.ls) w w') :
    Stp px pm mp S ⟨m', b, S.held⟩ w w' := by
  have := Stp.of h S.ls.length (b := b) (m' := m') (by rw [subL_all]; exact hs) hb (by rw [subL_all]; exact hc)
  rwa [replL_all] at this

theorem Stp.same {w w' : World} {px pm mp : Nat} {S : RS} (h : ChainAt w px pm mp S) (hc : Chg [] w w') : Stp px pm mp S S w w' :=
  ⟨h.chg hc (by simp), hc.any, fun x hx => Or.inl hx⟩

def putS (S : RS) (k v : Int) : RS := ⟨(putL S.ls S.m k v).2.2, (putL S.ls S.m k v).2.1, S.held⟩
def delS (S : RS) (k : Int) : RS := ⟨(delL S.ls S.m k).2.2, (delL S.ls S.m k).2.1, S.held⟩
def getS (S : RS) (k : Int) : RS := ⟨S.m, (getL S.ls S.m k).2.2, S.held⟩
def clearS (S : RS) : RS := ⟨zeroM, clearL S.ls, S.held⟩

set_option maxRecDepth 4000 in
theorem xget_calls {w : World} {px pm mp : Nat} {S : RS} (h : ChainAt w px pm mp S) (hn : S.ls.length ≤ 4) (k : Int) (hk : i64ok k) :
    Calls Try.prog 52 #[pt px, .int .i64 k] w fun x w' => x = .returned (.tuple #[.int .i64 (getL S.ls S.m k).1, .int .i64 (getL S.ls S.m k).2.1]) ∧ Stp px pm mp S (getS S k) w w' := by
  obtain ⟨T, tv, ht⟩ := top_iface pm S.ls
  have hm := get_meth h.st hn ht
  have hcf := fun args w => callFb (baseF 86 123 S.ls) (by rcases baseF_in 86 123 S.ls with e | e <;> rw [e] <;> simp) args w
  have c0 : w.cell? ⟨px, 0, none⟩ = some (.iface T tv) := by rw [← ht]; exact cell_of h.row rfl
  have H : Hid (ChainAt w px pm mp S) := h
  clear h ht
  go_enter Try.func52, Try.ntmps52
  go_wp2_with fail
  refine (getL_calls k hk S.ls S.m w H.out.st).mono ?_
  rintro e w2 ⟨rfl, hs2, hc2⟩
  have G : Hid (Stp px pm mp S (getS S k) w w2) := Stp.ofTop H.out (getL_sh _ _ _) hs2 hc2
  clear hs2 hc2
  go_wp2
  go_ret2
  exact ⟨rfl, G.out⟩

set_option maxRecDepth 4000 in
theorem xput_calls {w : World} {px pm mp : Nat} {S : RS} (h : ChainAt w px pm mp S) (k v : Int) (hk : i64ok k) :
    Calls Try.prog 53 #[pt px, .int .i64 k, .int .i64 v] w fun x w' => x = .returned (.int .i64 (putL S.ls S.m k v).1) ∧ Stp px pm mp S (putS S k v) w w' := by
  obtain ⟨T, tv, ht, hm⟩ := put_meth pm S.ls
  have hcf := fun args w => callF (putF S.ls) (putF_in S.ls) args w
  have c0 : w.cell? ⟨px, 0, none⟩ = some (.iface T tv) := by rw [← ht]; exact cell_of h.row rfl
  have H : Hid (ChainAt w px pm mp S) := h
  clear h ht
  go_enter Try.func53, Try.ntmps53
  go_wp2_with fail
  refine (putL_calls k v hk S.ls S.m w H.out.st).mono ?_
  rintro e w2 ⟨rfl, hs2, hc2⟩
  have G : Hid (Stp px pm mp S (putS S k v) w w2) := Stp.ofTop H.out (putL_sh _ _ _ _) hs2 hc2
  clear hs2 hc2
  go_wp2
  go_ret
  exact ⟨rfl, G.out⟩

set_option maxRecDepth 4000 in
theorem xdel_calls {w : World} {px pm mp : Nat} {S : RS} (h : ChainAt w px pm mp S) (k : Int) (hk : i64ok k) :
    Calls Try.prog 54 #[pt px, .int .i64 k] w fun x w' => x = .returned (.int .i64 (delL S.ls S.m k).1) ∧ Stp px pm mp S (delS S k) w w' := by
  obtain ⟨T, tv, ht, hm⟩ := del_meth pm S.ls
  have hcf := fun args w => callFd (delF S.ls) (delF_in S.ls) args w
  have c0 : w.cell? ⟨px, 0, none⟩ = some (.iface T tv) := by rw [← ht]; exact cell_of h.row rfl
  have H : Hid (ChainAt w px pm mp S) := h
  clear h ht
  go_enter Try.func54, Try.ntmps54
  go_wp2_with fail
  refine (delL_calls k hk S.ls S.m w H.out.st).mono ?_
  rintro e w2 ⟨rfl, hs2, hc2⟩
  have G : Hid (Stp px pm mp S (delS S k) w w2) := Stp.ofTop H.out (delL_sh _ _ _) hs2 hc2
  clear hs2 hc2
  go_wp2
  go_ret
  exact ⟨rfl, G.out⟩

set_option maxRecDepth 4000 in
theorem xclear_calls {w : World} {px pm mp : Nat} {S : RS} (h : ChainAt w px pm mp S) (hn : S.ls.length ≤ 4) :
    Calls Try.prog 55 #[pt px] w fun x w' => x = .returned (.int .i64 0) ∧ Stp px pm mp S (clearS S) w w' := by
  obtain ⟨T, tv, ht⟩ := top_iface pm S.ls
  have hm := clear_meth h.st hn ht
  have hcf := fun args w => callFb (baseF 110 121 S.ls) (by rcases baseF_in 110 121 S.ls with e | e <;> rw [e] <;> simp) args w
  have c0 : w.cell? ⟨px, 0, none⟩ = some (.iface T tv) := by rw [← ht]; exact cell_of h.row rfl
  have H : Hid (ChainAt w px pm mp S) := h
  clear h ht
  go_enter Try.func55, Try.ntmps55
  go_wp2_with fail
  refine (clearL_calls S.ls S.m w H.out.st).mono ?_
  rintro e w2 ⟨rfl, hs2, hc2⟩
  have G : Hid (Stp px pm mp S (clearS S) w w2) := Stp.ofTop H.out (clearL_sh _) hs2 hc2
  clear hs2 hc2
  go_wp2
  go_ret
  exact ⟨rfl, G.out⟩

set_option maxRecDepth 4000 in
theorem xlen_calls {w : World} {px pm mp : Nat} {S : RS} (h : ChainAt w px pm mp S) :
    Calls Try.prog 56 #[pt px] w fun x w' => x = .returned (.int .i64 S.m.cnt) ∧ w' = w := by
  obtain ⟨T, tv, ht⟩ := top_iface pm S.ls
  have hm := len_meth h.st ht
  have hcf := fun args w => callFl (lenF S.ls) (lenF_in S.ls) args w
  have c0 : w.cell? ⟨px, 0, none⟩ = some (.iface T tv) := by rw [← ht]; exact cell_of h.row rfl
  have H : Hid (ChainAt w px pm mp S) := h
  clear h ht
  go_enter Try.func56, Try.ntmps56
  go_wp2_with fail
  refine (lenL_calls S.ls S.m w H.out.st).mono ?_
  rintro e w2 ⟨rfl, rfl⟩
  go_wp2
  go_ret
  exact ⟨rfl, rfl⟩

set_option maxRecDepth 4000 in
theorem xname_calls {w : World} {px pm mp : Nat} {S : RS} (h : ChainAt w px pm mp S) (hn : S.ls.length ≤ 4) :
    Calls Try.prog 57 #[pt px] w fun x w' => x = .returned (.string (nameL S.ls)) ∧ w' = w := by
  obtain ⟨T, tv, ht⟩ := top_iface pm S.ls
  have hm := name_meth h.st hn ht
  have hcf := fun args w => callFb (baseF 113 125 S.ls) (by rcases baseF_in 113 125 S.ls with e | e <;> rw [e] <;> simp) args w
  have c0 : w.cell? ⟨px, 0, none⟩ = some (.iface T tv) := by rw [← ht]; exact cell_of h.row rfl
  have H : Hid (ChainAt w px pm mp S) := h
  clear h ht
  go_enter Try.func57, Try.ntmps57
  go_wp2_with fail
  refine (nameL_calls S.ls w).mono ?_
  rintro e w2 ⟨rfl, rfl⟩
  go_wp2
  go_ret
  exact ⟨rfl, rfl⟩

/-- Hits, plainly: value, error. -/
def hitsL : List Layer → Int × Int
  | .cached _ c :: _ => (c.hits, 0)
  | .limited _ c :: _ => (c.hits, 0)
  | _ => (0, 7)

theorem hits_cac (p : Nat) (w : World) : (Instr.typeAssert (.iface 86 (pt p)) 50 95 true).run Try.prog w = .ok (.tuple #[.iface 86 (pt p), .bool true]) w := by kernel_rfl
theorem hits_lim (p : Nat) (w : World) : (Instr.typeAssert (.iface 91 (pt p)) 50 95 true).run Try.prog w = .ok (.tuple #[.iface 91 (pt p), .bool true]) w := by kernel_rfl
/-- Does 'got' lack a method of 'want'? -/
def lacks (want : List (String × TypeId)) (got : List Method) : Bool := want.any fun x => !got.any fun m => m.name == x.1 && m.sig == x.2

theorem least_none {l : List String} : Instr.least l = none ↔ l = [] := by
  cases l <;> simp [Instr.least]

theorem missing_iff (want : Array (String × TypeId)) (got : Array Method) : Instr.missingMethod want got = none ↔ lacks want.toList got.toList = false := by
  have e : lacks want.toList got.toList = false ↔ (want.toList.filter fun (x : String × TypeId) => !got.any fun m => m.name == x.1 && m.sig == x.2) = [] := by
    rw [List.filter_eq_nil_iff]
    unfold lacks
    rw [List.any_eq_false]
    constructor
    · intro h x hx
      have := h x hx
      simpa using this
    · intro h x hx
      have := h x hx
      simpa using this
  rw [e]
  unfold Instr.missingMethod
  generalize hL : (want.toList.filter fun (x : String × TypeId) => !got.any fun m => m.name == x.1 && m.sig == x.2) = L
  simp only [hL, List.partition_eq_filter_filter]
  have key : ∀ (p : String → Bool) (g : String → String) (l : List String), (Instr.least (l.filter (fun x => !p x)) <|> Instr.least ((l.filter p).map g)) = none ↔ l = [] := by
    intro p g l
    constructor
    · intro h
      cases h1 : Instr.least (l.filter (fun x => !p x)) with
      | some s => rw [h1] at h; cases h
      | none =>
        rw [h1] at h
        have h2 : Instr.least ((l.filter p).map g) = none := h
        rw [least_none] at h1 h2
        simp only [List.map_eq_nil_iff, List.filter_eq_nil_iff] at h1 h2
        cases l with
        | nil => rfl
        | cons x l =>
          have a1 := h1 x (by simp)
          have a2 := h2 x (by simp)
          simp at a1 a2
          rw [a1] at a2; cases a2
    · intro h; subst h; rfl
  have := key (fun s => s.contains '.') (fun id => (id.splitOn ".").getLastD id) (L.map (·.1))
  rw [List.map_eq_nil_iff] at this
  exact this

theorem assert_lacks {want : Array (String × TypeId)} {t : TypeId} (hu : Try.prog.underlying 95 = some (.interface want)) (h : (Try.prog.info? t).map (fun i => lacks want.toList i.methods.toList) = some true) (hz : (Try.prog.info? 95).map (·.zero) = some (some .nilIface)) (v : Value) (w : World) :
    (Instr.typeAssert (.iface t v) 50 95 true).run Try.prog w = .ok (.tuple #[.nilIface, .bool false]) w := by
  obtain ⟨i, hi, hl⟩ := Option.map_eq_some_iff.1 h
  obtain ⟨j, hj, hz'⟩ := Option.map_eq_some_iff.1 hz
  cases hm : Instr.missingMethod want i.methods with
  | none => rw [missing_iff, hl] at hm; cases hm
  | some m => simp [Instr.typeAssert, run_underlying hu, typeInfo, hi, hm, zeroValue, hj, hz']

theorem hits_mem (p : Nat) (w : World) : (Instr.typeAssert (.iface 45 (pt p)) 50 95 true).run Try.prog w = .ok (.tuple #[.nilIface, .bool false]) w := assert_lacks Try.underlying95 (by kernel_rfl) (by kernel_rfl) _ w
theorem hits_log (p : Nat) (w : World) : (Instr.typeAssert (.iface 53 (pt p)) 50 95 true).run Try.prog w = .ok (.tuple #[.nilIface, .bool false]) w := assert_lacks Try.underlying95 (by kernel_rfl) (by kernel_rfl) _ w

set_option maxRecDepth 4000 in
theorem xhits_calls {w : World} {px pm mp : Nat} {S : RS} (h : ChainAt w px pm mp S) :
    Calls Try.prog 58 #[pt px] w fun x w' => x = .returned (.tuple #[.int .i64 (hitsL S.ls).1, .int .i64 (hitsL S.ls).2]) ∧ w' = w := by
  have c0 : w.cell? ⟨px, 0, none⟩ = some (topV pm S.ls) := cell_of h.row rfl
  have hs := h.st
  clear h
  generalize S.ls = ls at c0 hs
  cases ls with
  | nil =>
    have hh := hits_mem pm w
    rw [topV] at c0
    clear hs
    go_enter Try.func58, Try.ntmps58
    go_wp2
    go_ret2
    exact ⟨rfl, rfl⟩
  | cons x r =>
    cases x with
    | cached p c =>
      have hh := hits_cac p w
      have hm := cached_hits p w
      have H : Hid (CacAt w p pm c [] 90) := hs.2.2.2.1
      rw [topV] at c0
      clear hs
      go_enter Try.func58, Try.ntmps58
      go_wp2_with fail
      refine (chits_calls H.out).mono ?_
      rintro e w2 ⟨rfl, rfl⟩
      go_wp2
      go_ret2
      exact ⟨rfl, rfl⟩
    | limited p c =>
      have hh := hits_lim p w
      have hm := limited_hits p w
      have H : Hid (CacAt w p pm c [.int .i64 2] 93) := hs.2.2.2.1
      rw [topV] at c0
      clear hs
      go_enter Try.func58, Try.ntmps58
      go_wp2_with fail
      refine (chits_calls H.out).mono ?_
      rintro e w2 ⟨rfl, rfl⟩
      go_wp2
      go_ret2
      exact ⟨rfl, rfl⟩
    | logged p l =>
      have hh := hits_log p w
      rw [topV] at c0
      clear hs
      go_enter Try.func58, Try.ntmps58
      go_wp2
      go_ret2
      exact ⟨rfl, rfl⟩
end Go.Proofs.Qxb6500371a.W
