/- Closed facts on this seat's translation, one theorem each: what every row of the seat asks of the whole program. No conditions. -/
import Derived.Test.YteiicekadcihcaaRows
import Derived.JoinedOf
import Derived.KernelRfl
namespace Go.Proofs.Yteiicekadcihcaa.facts
open Go
/-- the signs of the translation's first row -/
def signs : List Char := [Char.ofNat 104, Char.ofNat 97, Char.ofNat 114, Char.ofNat 110, Char.ofNat 101, Char.ofNat 115, Char.ofNat 115, Char.ofNat 32, Char.ofNat 56, Char.ofNat 102, Char.ofNat 53, Char.ofNat 52, Char.ofNat 48, Char.ofNat 53, Char.ofNat 48, Char.ofNat 101, Char.ofNat 97, Char.ofNat 99, Char.ofNat 50, Char.ofNat 102, Char.ofNat 100, Char.ofNat 98, Char.ofNat 50, Char.ofNat 97, Char.ofNat 55, Char.ofNat 102, Char.ofNat 55, Char.ofNat 102, Char.ofNat 100, Char.ofNat 54, Char.ofNat 48, Char.ofNat 57, Char.ofNat 51, Char.ofNat 54, Char.ofNat 101, Char.ofNat 48, Char.ofNat 48, Char.ofNat 57, Char.ofNat 98, Char.ofNat 51, Char.ofNat 101, Char.ofNat 100, Char.ofNat 99, Char.ofNat 55, Char.ofNat 98, Char.ofNat 54, Char.ofNat 54, Char.ofNat 99, Char.ofNat 54, Char.ofNat 57, Char.ofNat 49, Char.ofNat 49, Char.ofNat 48, Char.ofNat 56, Char.ofNat 48, Char.ofNat 50, Char.ofNat 98, Char.ofNat 97, Char.ofNat 55, Char.ofNat 97, Char.ofNat 56, Char.ofNat 56, Char.ofNat 56, Char.ofNat 55, Char.ofNat 51, Char.ofNat 53, Char.ofNat 53, Char.ofNat 51, Char.ofNat 51, Char.ofNat 97, Char.ofNat 49, Char.ofNat 54, Char.ofNat 32, Char.ofNat 99, Char.ofNat 117, Char.ofNat 116, Char.ofNat 32, Char.ofNat 97, Char.ofNat 116, Char.ofNat 32, Char.ofNat 102, Char.ofNat 108, Char.ofNat 105, Char.ofNat 99, Char.ofNat 107, Char.ofNat 101, Char.ofNat 114, Char.ofNat 98, Char.ofNat 111, Char.ofNat 111, Char.ofNat 107, Char.ofNat 47, Char.ofNat 102, Char.ofNat 108, Char.ofNat 105, Char.ofNat 99, Char.ofNat 107, Char.ofNat 101, Char.ofNat 114, Char.ofNat 98, Char.ofNat 111, Char.ofNat 111, Char.ofNat 107, Char.ofNat 108, Char.ofNat 97, Char.ofNat 119, Char.ofNat 46, Char.ofNat 82, Char.ofNat 101, Char.ofNat 99, Char.ofNat 116, Char.ofNat 83, Char.ofNat 97, Char.ofNat 121, Char.ofNat 115, Char.ofNat 32, Char.ofNat 102, Char.ofNat 108, Char.ofNat 105, Char.ofNat 99, Char.ofNat 107, Char.ofNat 101, Char.ofNat 114, Char.ofNat 98, Char.ofNat 111, Char.ofNat 111, Char.ofNat 107, Char.ofNat 47, Char.ofNat 102, Char.ofNat 108, Char.ofNat 105, Char.ofNat 99, Char.ofNat 107, Char.ofNat 101, Char.ofNat 114, Char.ofNat 98, Char.ofNat 111, Char.ofNat 111, Char.ofNat 107, Char.ofNat 108, Char.ofNat 97, Char.ofNat 119, Char.ofNat 46, Char.ofNat 80, Char.ofNat 97, Char.ofNat 99, Char.ofNat 107, Char.ofNat 83, Char.ofNat 97, Char.ofNat 121, Char.ofNat 115, Char.ofNat 32, Char.ofNat 102, Char.ofNat 108, Char.ofNat 105, Char.ofNat 99, Char.ofNat 107, Char.ofNat 101, Char.ofNat 114, Char.ofNat 98, Char.ofNat 111, Char.ofNat 111, Char.ofNat 107, Char.ofNat 47, Char.ofNat 102, Char.ofNat 108, Char.ofNat 105, Char.ofNat 99, Char.ofNat 107, Char.ofNat 101, Char.ofNat 114, Char.ofNat 98, Char.ofNat 111, Char.ofNat 111, Char.ofNat 107, Char.ofNat 116, Char.ofNat 111, Char.ofNat 112, Char.ofNat 46, Char.ofNat 84, Char.ofNat 111, Char.ofNat 112, Char.ofNat 79, Char.ofNat 118, Char.ofNat 101, Char.ofNat 114, Char.ofNat 32, Char.ofNat 102, Char.ofNat 108, Char.ofNat 105, Char.ofNat 99, Char.ofNat 107, Char.ofNat 101, Char.ofNat 114, Char.ofNat 98, Char.ofNat 111, Char.ofNat 111, Char.ofNat 107, Char.ofNat 47, Char.ofNat 102, Char.ofNat 108, Char.ofNat 105, Char.ofNat 99, Char.ofNat 107, Char.ofNat 101, Char.ofNat 114, Char.ofNat 98, Char.ofNat 111, Char.ofNat 111, Char.ofNat 107, Char.ofNat 116, Char.ofNat 111, Char.ofNat 112, Char.ofNat 46, Char.ofNat 84, Char.ofNat 111, Char.ofNat 112, Char.ofNat 80, Char.ofNat 97, Char.ofNat 99, Char.ofNat 107]
set_option maxRecDepth 100000 in
theorem head : Try.prog.initOrder = String.ofList signs := by kernel_rfl
theorem signs_eq : Try.prog.initOrder.toList = signs := by rw [head]; exact String.toList_ofList
def words : List (List Char) := behindMainWord (wordsSigns signs)
theorem words_eq : behindMainWord (wordsSigns Try.prog.initOrder.toList) = words := by rw [signs_eq]; rfl
theorem cons_eq : words = [Char.ofNat 99, Char.ofNat 117, Char.ofNat 116] :: words.tail := by kernel_rfl
theorem strip_cut (r : List (List Char)) : stripLifts liftWords ([Char.ofNat 99, Char.ofNat 117, Char.ofNat 116] :: r) = ([], [Char.ofNat 99, Char.ofNat 117, Char.ofNat 116] :: r) := by kernel_rfl
theorem headLifts_of (P : Program) (r : List (List Char)) (h : behindMainWord (wordsSigns P.initOrder.toList) = [Char.ofNat 99, Char.ofNat 117, Char.ofNat 116] :: r) : P.headLifts = [] := by
  unfold Program.headLifts
  rw [h, strip_cut]
  as_aux_lemma => kernel_rfl
theorem make_of (P : Program) (r : List (List Char)) (h : behindMainWord (wordsSigns P.initOrder.toList) = [Char.ofNat 99, Char.ofNat 117, Char.ofNat 116] :: r) : P.make = some Make.cut := by
  unfold Program.make
  rw [h]
  generalize P.headLifts = l
  as_aux_lemma => kernel_rfl
theorem lifts_of (P : Program) (r : List (List Char)) (h : behindMainWord (wordsSigns P.initOrder.toList) = [Char.ofNat 99, Char.ofNat 117, Char.ofNat 116] :: r) : P.liftsFinal = false := by
  unfold Program.liftsFinal
  rw [headLifts_of P r h, h]
  as_aux_lemma => kernel_rfl
theorem mayEnter_of (P : Program) (r : List (List Char)) (h : behindMainWord (wordsSigns P.initOrder.toList) = [Char.ofNat 99, Char.ofNat 117, Char.ofNat 116] :: r) (h1 : P.laysLater = false) (h2 : P.bearsReflect = false) (h3 : P.doorFits [] = true) : P.mayEnter = true := by
  unfold Program.mayEnter
  rw [h, h1, h2]
  simp only [strip_cut, h3]
  as_aux_lemma => kernel_rfl
theorem cut_eq : behindMainWord (wordsSigns Try.prog.initOrder.toList) = [Char.ofNat 99, Char.ofNat 117, Char.ofNat 116] :: words.tail := words_eq.trans cons_eq
theorem headLifts : Try.prog.headLifts = [] := headLifts_of _ _ cut_eq
theorem make : Try.prog.make = some Make.cut := make_of _ _ cut_eq
theorem lifts : Try.prog.liftsFinal = false := lifts_of _ _ cut_eq
theorem laysLater : Try.prog.laysLater = false := by kernel_rfl
theorem bearsReflect : Try.prog.bearsReflect = false := by kernel_rfl
theorem doors : Try.prog.doorFits [] = true := by kernel_rfl
theorem mayEnter : Try.prog.mayEnter = true := mayEnter_of _ _ cut_eq laysLater bearsReflect doors
theorem laid : laidOutB Try.prog = true := by kernel_rfl
theorem rowed : mapsRowed Try.prog = true := by kernel_rfl
theorem stops : Try.prog.stops = [] := by kernel_rfl
theorem knobs : Try.prog.stopKnobs = [] := by kernel_rfl
theorem heard : Try.prog.stopsHeard = true := by kernel_rfl
theorem plain : Try.prog.plainKeys = true := by kernel_rfl
theorem own : ownKnob Try.prog.godebug = none := by kernel_rfl
theorem joined_of (P : Program) (f : FuncId) (fn : Func) (s : ChangeSpec) (c : OpenClaim) (k1 : c.wf (OpenSpec.ofChange s) = true) (k2 : laidOutB P = true) (k3 : mapsRowed P = true)
    (k4 : fn.params.all (P.readableRec ·) = true) (k5 : namedTie P c.named s.vars = true) (k6 : (c.stops == []) = true) (k7 : (P.stops == []) = true) (k8 : (c.knobs == []) = true) (k9 : (P.stopKnobs == []) = true)
    (k10 : (c.inPlace == P.inPlace f) = true) (k11 : (c.unfollowed == P.unfollowed f) = true) (k12 : (c.recurses == P.recurses f) = true) (k13 : (c.named == P.varsNamed f) = true)
    (k14 : (c.maps == (fn.params.toList ++ s.plain.varTypes P).any (P.mapsRec ·)) = true) (k15 : (c.ifaces == (fn.params.toList ++ s.plain.varTypes P).any (P.ifacesRec ·)) = true) (k16 : (c.mapsOut == P.mapsAmong fn.resultTypes.toList) = true)
    (k17 : (c.loops == (fn.params.toList ++ s.plain.varTypes P).any (P.loopsFrom ·)) = true) (k18 : (c.wideKeys == (fn.params.toList ++ s.plain.varTypes P ++ fn.resultTypes.toList).any (P.wideKeysFrom ·)) = true)
    (k19 : s.vars.all (P.varReadable ·) = true) (k20 : fn.resultTypes.all (fun t => P.readableRec t && decide (t < P.types.size)) = true) (k21 : (c.ifacesOut == fn.resultTypes.toList.any (P.ifacesRec ·)) = true) (k22 : (c.loopsOut == fn.resultTypes.toList.any (P.loopsFrom ·)) = true)
    (k23 : (c.plainKeys == P.plainKeys) = true) (k24 : c.shortTexts.isNone = true) (k25 : P.stopsHeard = true) (k26 : P.mayEnter = true) (k27 : (c.lifted == P.liftsFinal) = true) (k28 : (P.make == some c.make) = true)
    (hd : c.domain.isEmpty = true) (hk : (c.kinds == []) = true) (k30 : (c.pinned == c.pinnedBy) = true)
    (k31 : (c.veiled == (fn.params.toList ++ s.plain.varTypes P ++ fn.resultTypes.toList).any (P.veiledRec ·)) = true) (k32 : c.veiledFits P fn.params.toList (fn.params.toList ++ s.plain.varTypes P ++ fn.resultTypes.toList) = true) : joinedFacts P f fn s c = true := by
  unfold joinedFacts
  rw [if_pos hd]
  simp only [Bool.and_eq_true]
  exact ⟨⟨⟨⟨⟨⟨⟨⟨⟨⟨⟨⟨⟨⟨⟨⟨⟨⟨⟨⟨⟨⟨⟨⟨⟨⟨⟨⟨⟨⟨⟨k1, k2⟩, k3⟩, k4⟩, k5⟩, k6⟩, k7⟩, k8⟩, k9⟩, k10⟩, k11⟩, k12⟩, k13⟩, k14⟩, k15⟩, k16⟩, k17⟩, k18⟩, k19⟩, k20⟩, k21⟩, k22⟩, k23⟩, k24⟩, k25⟩, k26⟩, k27⟩, k28⟩, hk⟩, k30⟩, k31⟩, k32⟩
theorem stops' : (Try.prog.stops == []) = true := by rw [stops]; rfl
theorem knobs' : (Try.prog.stopKnobs == []) = true := by rw [knobs]; rfl
end Go.Proofs.Yteiicekadcihcaa.facts
