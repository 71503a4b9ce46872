import Derived.Test.Qxb6500374aRows
import Derived.WalkKit
import Derived.ProofKit
import Derived.OpenShut
import Derived.ShutString
set_option linter.unusedSimpArgs false
namespace Go.Proofs.Qxb6500374a.Facts

theorem own : ownKnob Try.prog.godebug = none := by kernel_rfl

theorem ofChars (l : List Char) (h : Try.prog.initOrder = String.ofList l) (h2 : behindMainWord (wordsSigns l) = ['c', 'u', 't'] :: (behindMainWord (wordsSigns l)).tail) :
    ∃ rest, behindMainWord (wordsSigns Try.prog.initOrder.toList) = ['c', 'u', 't'] :: rest := by
  rw [h, String.toList_ofList]
  exact ⟨_, h2⟩

set_option maxRecDepth 100000 in
theorem headCut : ∃ rest, behindMainWord (wordsSigns Try.prog.initOrder.toList) = ['c', 'u', 't'] :: rest :=
  ofChars _ rfl (by kernel_rfl)

theorem strip_cut (rest : List (List Char)) : stripLifts liftWords (['c', 'u', 't'] :: rest) = ([], ['c', 'u', 't'] :: rest) := by rfl

theorem make_of (P : Program) (rest : List (List Char)) (h : behindMainWord (wordsSigns P.initOrder.toList) = ['c', 'u', 't'] :: rest) : P.make = some .cut := by
  unfold Program.make; rw [h]; rfl

theorem lifts_of (P : Program) (rest : List (List Char)) (h : behindMainWord (wordsSigns P.initOrder.toList) = ['c', 'u', 't'] :: rest) : P.liftsFinal = false := by
  unfold Program.liftsFinal Program.headLifts; rw [h, strip_cut]; rfl

theorem enter_of (P : Program) (rest : List (List Char)) (h : behindMainWord (wordsSigns P.initOrder.toList) = ['c', 'u', 't'] :: rest)
    (h1 : P.laysLater = false) (h2 : P.bearsReflect = false) (h3 : P.doorFits [] = true) : P.mayEnter = true := by
  unfold Program.mayEnter; rw [h]; simp only [strip_cut, h1, h2, h3]; rfl

theorem later : Try.prog.laysLater = false := by kernel_rfl
theorem bears : Try.prog.bearsReflect = false := by kernel_rfl
theorem door : Try.prog.doorFits [] = true := by kernel_rfl
theorem mayEnter : Try.prog.mayEnter = true := by
  obtain ⟨rest, h⟩ := headCut
  exact enter_of _ rest h later bears door
theorem liftsFinal : Try.prog.liftsFinal = false := by
  obtain ⟨rest, h⟩ := headCut
  exact lifts_of _ rest h
theorem make : Try.prog.make = some .cut := by
  obtain ⟨rest, h⟩ := headCut
  exact make_of _ rest h

theorem laid : laidOutB Try.prog = true := by kernel_rfl
theorem mapsRow : mapsRowed Try.prog = true := by kernel_rfl
theorem stops : Try.prog.stops = [] := by kernel_rfl
theorem knobs : Try.prog.stopKnobs = [] := by kernel_rfl
theorem keys : Try.prog.plainKeys = true := by kernel_rfl
theorem heard : Try.prog.stopsHeard = true := by kernel_rfl

theorem laidOut : laidOutB Try.prog = true := laid
theorem reads : Try.prog.readableRec 4 = true := by kernel_rfl
theorem reads22 : Try.prog.readableRec 22 = true := by kernel_rfl
theorem small : (4 < Try.prog.types.size) = True := eq_true (of_decide_eq_true (by kernel_rfl))
theorem ifaces4 : Try.prog.ifacesRec 4 = false := by kernel_rfl
theorem loops4 : Try.prog.loopsFrom 4 = false := by kernel_rfl
theorem wide4 : Try.prog.wideKeysFrom 4 = false := by kernel_rfl
theorem veiled4 : Try.prog.veiledRec 4 = false := by kernel_rfl
theorem ifaces22 : Try.prog.ifacesRec 22 = false := by kernel_rfl
theorem loops22 : Try.prog.loopsFrom 22 = false := by kernel_rfl
theorem wide22 : Try.prog.wideKeysFrom 22 = false := by kernel_rfl
theorem veiled22 : Try.prog.veiledRec 22 = false := by kernel_rfl
theorem maps22 : Try.prog.mapsRec 22 = false := by kernel_rfl
theorem maps4 : Try.prog.mapsAmong [4] = false := by kernel_rfl

/-- What a row over a function of one script, with one bool for its result, asks of the program. -/
theorem facts (f : FuncId) (fn : Func) (s : ChangeSpec) (c : OpenClaim) (h1 : c.wf (OpenSpec.ofChange s) = true) (h2 : fn.params = #[22]) (h3 : fn.resultTypes = #[4]) (h4 : s.vars = [])
    (h5 : (c.inPlace == Try.prog.inPlace f) = true) (h6 : (c.unfollowed == Try.prog.unfollowed f) = true) (h7 : (c.recurses == Try.prog.recurses f) = true) (h8 : (c.named == Try.prog.varsNamed f) = true)
    (h9 : namedTie Try.prog c.named [] = true) (h10 : (c.stops == []) = true) (h11 : (c.knobs == []) = true) (h12 : c.maps = false) (h13 : c.ifaces = false) (h14 : c.mapsOut = false) (h15 : c.loops = false)
    (h16 : c.wideKeys = false) (h17 : c.ifacesOut = false) (h18 : c.loopsOut = false) (h19 : c.plainKeys = true) (h20 : c.shortTexts = none) (h21 : c.lifted = false) (h22 : c.make = .cut) (h23 : c.domain = [])
    (h24 : c.kinds = []) (h25 : (c.pinned == c.pinnedBy) = true) (h26 : c.veiled = false) (h27 : c.veiledFits Try.prog [22] [22, 4] = true) :
    joinedFacts Try.prog f fn s c = true := by
  have hv : s.plain.varTypes Try.prog = [] := by
    simp [DataSpec.varTypes, ChangeSpec.plain, h4]
  unfold joinedFacts
  simp only [h1, laid, mapsRow, h2, h3, h4, h5, h6, h7, h8, h9, h10, h11, stops, knobs, keys, heard, mayEnter, liftsFinal, make, h12, h13, h14, h15, h16, h17, h18, h19, h20, h21, h22, h23, h24, h25, h26, h27, hv]
  simp [reads, reads22, small, ifaces4, loops4, wide4, veiled4, maps4, ifaces22, loops22, wide22, veiled22, maps22, h27]
end Go.Proofs.Qxb6500374a.Facts
