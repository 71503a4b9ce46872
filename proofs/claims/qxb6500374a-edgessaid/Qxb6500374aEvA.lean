import Derived.Test.Qxb6500374aEv
import Derived.Laws.Cells
import Derived.Laws.Entries
import Derived.ChangeKeysEq
set_option linter.unusedSimpArgs false
set_option linter.unusedVariables false
namespace Go.Rel

/-! ### The shift: block b of a relative value is block N + b; a number from 2^64 on stands for an unknown; '.chan none' is the argument that is never read -/
structure Env where
  N : Nat
  nan : Nat → Nat
  cap : Nat → Nat
  ob : Nat → Obj
  ap : Option Addr
  al : Nat
  ac : Nat

def shA (E : Env) (a : Addr) : Addr := ⟨E.N + a.block, a.off, a.spot⟩

def unkF (E : Env) (n : Nat) : Nat := if n < 18446744073709551616 then n else E.nan (n - 18446744073709551616)
def unkC (E : Env) (n : Nat) : Nat := if n < 18446744073709551616 then n else E.cap (n - 18446744073709551616)

def sh (E : Env) : Value → Value
  | .pointer (some a) => .pointer (some (shA E a))
  | .slice (some a) l c => .slice (some (shA E a)) l (unkC E c)
  | .map (some r) => .map (some (E.N + r))
  | .chan (some r) => .chan (some (E.N + r))
  | .func fn f c => .func fn (f.map fun v => sh E v) (c.map fun v => sh E v)
  | .iface t v => .iface t (sh E v)
  | .agg cs => .agg (cs.map fun v => sh E v)
  | .tuple vs => .tuple (vs.map fun v => sh E v)
  | .bool b => .bool b
  | .int k n => .int k n
  | .float k n => .float k (unkF E n)
  | .complex k a b => .complex k a b
  | .string s => .string s
  | .pointer none => .pointer none
  | .slice none l c => .slice none l (unkC E c)
  | .map none => .map none
  | .chan none => .slice E.ap E.al E.ac
  | .nilFunc => .nilFunc
  | .nilIface => .nilIface

def shE (E : Env) (e : MapEntry) : MapEntry := ⟨sh E e.key, sh E e.val, e.born⟩

/-- What block i truly is. Of an iterator and of a dead block the true block is kept beside. -/
def shO (E : Env) (i : Nat) : Obj → Obj
  | .cells c t fr => .cells (c.map (sh E)) t fr
  | .map es c => .map (es.map (shE E)) c
  | .mapIter _ _ _ _ => E.ob i
  | .coro _ => E.ob i
  | .chan j c _ t _ _ => .cells (c.map (sh E) ++ Array.replicate (E.cap j - c.size) (.int .i64 0)) t (0, 0)
  | o => o

section
variable (E : Env)
theorem sh_agg (cs : Array Value) : sh E (.agg cs) = .agg (cs.map (sh E)) := by rw [sh]
theorem sh_tuple (cs : Array Value) : sh E (.tuple cs) = .tuple (cs.map (sh E)) := by rw [sh]
theorem sh_func (fn : Fn) (f c : Array Value) : sh E (.func fn f c) = .func fn (f.map (sh E)) (c.map (sh E)) := by rw [sh]
theorem sh_iface (t : TypeId) (v : Value) : sh E (.iface t v) = .iface t (sh E v) := by rw [sh]
theorem sh_bool (b : Bool) : sh E (.bool b) = .bool b := by rw [sh]
theorem sh_int (k : IntKind) (n : Int) : sh E (.int k n) = .int k n := by rw [sh]
theorem sh_string (s : ByteArray) : sh E (.string s) = .string s := by rw [sh]
theorem sh_ptr (a : Addr) : sh E (.pointer (some a)) = .pointer (some (shA E a)) := by rw [sh]
theorem sh_ptr0 : sh E (.pointer none) = .pointer none := by rw [sh]
theorem sh_slice (a : Addr) (l c : Nat) : sh E (.slice (some a) l c) = .slice (some (shA E a)) l (unkC E c) := by rw [sh]
theorem sh_slice0 (l c : Nat) : sh E (.slice none l c) = .slice none l (unkC E c) := by rw [sh]
theorem sh_map (r : Nat) : sh E (.map (some r)) = .map (some (E.N + r)) := by rw [sh]
theorem sh_map0 : sh E (.map none) = .map none := by rw [sh]
theorem sh_nilFunc : sh E .nilFunc = .nilFunc := by rw [sh]
theorem sh_nilIface : sh E .nilIface = .nilIface := by rw [sh]
theorem sh_float (k : FloatKind) (n : Nat) : sh E (.float k n) = .float k (unkF E n) := by rw [sh]
theorem sh_complex (k : FloatKind) (a b : Nat) : sh E (.complex k a b) = .complex k a b := by rw [sh]
theorem sh_chan0 : sh E (.chan none) = .slice E.ap E.al E.ac := by rw [sh]
theorem sh_chan (r : Nat) : sh E (.chan (some r)) = .chan (some (E.N + r)) := by rw [sh]
theorem sh_undef : sh E undef = undef := by simp [undef, sh_tuple]

theorem unkF_lt {n : Nat} (h : n < 18446744073709551616) : unkF E n = n := by simp [unkF, h]
theorem unkC_lt {n : Nat} (h : n < 18446744073709551616) : unkC E n = n := by simp [unkC, h]

theorem sh_scal {v : Value} (h : scal v = true) : sh E v = v := by
  unfold scal at h
  split at h <;> first
    | (simp only [sh_bool, sh_int, sh_string, sh_complex, sh_nilFunc, sh_nilIface, sh_ptr0, sh_map0]; done)
    | (rw [sh_float, unkF_lt]; simpa using h)
    | (rw [sh_slice0, unkC_lt]; simpa using h)
    | (rename_i vs; have hv : vs = #[] := by simpa using h
       rw [hv, sh_tuple]; simp)
    | (cases h)

theorem cellsL_sh (v : Value) : cellsL (sh E v) = (cellsL v).map (sh E) := by
  cases v with
  | agg cs => simp [sh_agg, cellsL]
  | pointer a => cases a <;> simp [sh_ptr, sh_ptr0, cellsL]
  | slice a l c => cases a <;> simp [sh_slice, sh_slice0, cellsL]
  | map a => cases a <;> simp [sh_map, sh_map0, cellsL]
  | chan a => cases a <;> simp [sh_chan, sh_chan0, cellsL]
  | _ => simp [sh_tuple, sh_func, sh_iface, sh_bool, sh_int, sh_string, sh_nilFunc, sh_nilIface, sh_float, sh_complex, cellsL]

theorem flat_sh (v : Value) : flatV (sh E v) = flatV v := by
  cases v with
  | pointer a => cases a <;> simp [sh_ptr, sh_ptr0, flatV]
  | slice a l c => cases a <;> simp [sh_slice, sh_slice0, flatV]
  | map a => cases a <;> simp [sh_map, sh_map0, flatV]
  | chan a => cases a <;> simp [sh_chan, sh_chan0, flatV]
  | _ => simp [sh_agg, sh_tuple, sh_func, sh_iface, sh_bool, sh_int, sh_string, sh_nilFunc, sh_nilIface, sh_float, sh_complex, flatV]

theorem cells_eq (v : Value) : v.cells = ⟨cellsL v⟩ := by cases v <;> simp [Value.cells, cellsL]

theorem map_scal {l : List Value} (h : l.all scal = true) : l.map (sh E) = l := by
  induction l with
  | nil => rfl
  | cons v l ih =>
    simp only [List.all_cons, Bool.and_eq_true] at h
    simp [sh_scal E h.1, ih h.2]

theorem sh_cells_scal {v : Value} (h : (cellsL v).all scal = true) : sh E v = v := by
  cases v with
  | agg cs =>
    simp only [cellsL] at h
    rw [sh_agg]
    congr 1
    rw [← Array.toList_inj, Array.toList_map]
    exact map_scal E h
  | _ => exact sh_scal E (by simpa [cellsL] using h)

theorem getD_sh (tm : List Value) (t : Nat) : (tm.map (sh E)).getD t undef = sh E (tm.getD t undef) := by
  simp only [List.getD_eq_getElem?_getD, List.getElem?_map]
  cases tm[t]? <;> simp [sh_undef]

/-! ### The true world of a relative one -/
def mk (w0 : World) (h : List Obj) (d : Nat) : World := { w0 with heap := w0.heap ++ (h.mapIdx (shO E)).toArray, drawn := d }

variable {w0 : World}

theorem mk_size (hN : E.N = w0.heap.size) (h : List Obj) (d : Nat) : (mk E w0 h d).heap.size = E.N + h.length := by simp [mk, hN]

theorem mk_get (hN : E.N = w0.heap.size) (h : List Obj) (d i : Nat) : (mk E w0 h d).heap[E.N + i]? = (h[i]?).map (shO E i) := by
  simp only [mk]
  rw [Array.getElem?_append_right (by omega)]
  simp [hN]

theorem mk_push (h : List Obj) (d : Nat) (o : Obj) : { mk E w0 h d with heap := (mk E w0 h d).heap.push (shO E h.length o) } = mk E w0 (h ++ [o]) d := by
  simp [mk, List.mapIdx_concat]

theorem mapIdx_set' (f : Nat → Obj → Obj) (h : List Obj) (r : Nat) (o : Obj) : (h.set r o).mapIdx f = (h.mapIdx f).set r (f r o) := by
  apply List.ext_getElem?
  intro i
  simp only [List.getElem?_mapIdx, List.getElem?_set, List.length_mapIdx]
  by_cases hi : r = i
  · subst hi
    by_cases hl : r < h.length <;> simp [hl]
  · simp [hi]

theorem mk_set (hN : E.N = w0.heap.size) (h : List Obj) (d r : Nat) (o : Obj) : { mk E w0 h d with heap := (mk E w0 h d).heap.setIfInBounds (E.N + r) (shO E r o) } = mk E w0 (h.set r o) d := by
  simp only [mk]
  congr 1
  rw [← Array.toList_inj]
  simp only [Array.toList_setIfInBounds, Array.toList_append]
  rw [List.set_append_right _ _ (by simp [hN]), mapIdx_set']
  simp [hN]
end

/-! ### types -/
section
variable {P : Program}
theorem info_of {t : TypeId} {i : TypeInfo} (h : tyI P t = some i) : P.info? t = some i := by
  unfold tyI at h
  rw [Array.getElem?_toList] at h
  have hlt : t < P.types.size := (Array.getElem?_eq_some_iff.1 h).1
  simp only [Tables.info?, hlt, if_true, h]

theorem under_of {t : TypeId} {d : TypeDesc} (h : tyU P t = some d) : P.underlying t = some d := by
  unfold tyU at h
  cases hi : tyI P t with
  | none => simp [hi] at h
  | some i =>
    have h1 := info_of hi
    simp only [hi] at h
    unfold Program.underlying
    rw [h1]
    obtain ⟨desc⟩ := i
    cases desc with
    | named n u =>
      simp only at h ⊢
      cases hj : tyI P u with
      | none => simp [hj] at h
      | some j => simp only [hj] at h; simp [info_of hj, ← h]
    | _ => simpa using h

theorem run_under {t : TypeId} {d : TypeDesc} (h : tyU P t = some d) (w : World) : (underlying t).run P w = .ok d w := run_underlying (under_of h) w

theorem run_info {t : TypeId} {i : TypeInfo} (h : tyI P t = some i) (w : World) : (typeInfo t).run P w = .ok i w := by
  simp [typeInfo, info_of h]

theorem run_size {t : TypeId} {n : Nat} (h : tySz P t = some n) (w : World) : (sizeOf t).run P w = .ok n w := by
  unfold tySz at h
  cases hi : tyI P t with
  | none => simp [hi] at h
  | some i => simp only [hi, Option.some.injEq] at h; simp [sizeOf, run_info hi, h]

theorem zero_scal {t : TypeId} {z : Value} (h : zeroR P t = some z) : (cellsL z).all scal = true := by
  unfold zeroR at h
  split at h
  · split at h
    · split at h
      · rename_i hz; cases h; exact hz
      · cases h
    · cases h
  · cases h

theorem run_zero {t : TypeId} {z : Value} (h : zeroR P t = some z) (w : World) : (zeroValue t).run P w = .ok z w := by
  unfold zeroR at h
  split at h
  · rename_i i hi
    split at h
    · rename_i z' hz'
      split at h
      · cases h; simp [zeroValue, run_info hi, hz']
      · cases h
    · cases h
  · cases h

theorem run_agg {t : TypeId} {d : TypeDesc} (h : tyU P t = some d) (w : World) : (isAgg t).run P w = .ok (aggB d) w := by
  simp only [isAgg, Sem.run_bind, run_under h, Result.andThen_ok]
  cases d <;> rfl
end
end Go.Rel
