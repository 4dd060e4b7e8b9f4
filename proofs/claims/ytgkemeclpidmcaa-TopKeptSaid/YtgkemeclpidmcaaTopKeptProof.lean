/- flickerbooktop.TopKept returns true for every input, and each argument reads behind the call as before. Conditions: none. -/
import Derived.Test.YtgkemeclpidmcaaRows
import Derived.Test.YtgkemeclpidmcaaLawTopKept
import Derived.ProofKit
import Derived.OpenShut
import Derived.ShutString
import Derived.ChangeOld
import Derived.Below
import Derived.Lib.SmallJoins
import Derived.Test.YtgkemeclpidmcaaFacts
import Derived.Test.YtgkemeclpidmcaaOpen2
namespace Go.Proofs.Ytgkemeclpidmcaa.topKept
open Go.ChangeShapes Go.WideShapes Go.ChangeAt Go.RowKit Go.Joins Fb
open Go.ChangeMaps (open_string shut_string)
set_option maxRecDepth 100000 in
theorem lifted (os : Os) (started : os.Started) (H : Type) (enc : TypeId × Value → H) :
    ReturnsInHanded {} Try.checked os 12 .any (Rows.topKeptSpec.pre6 enc Try.prog Try.f12 Rows.topKeptRow.domain false) (Rows.topKeptSpec.post enc Try.prog Try.f12 false true false false) := by
  refine returnsInHanded_of_change (C := Try.checked) facts.own started (by kernel_rfl) Try.func12
    (ChangeSpec.witness6 (enc := enc) (C := Try.checked) false ⟨#[], #[.slice none 0 0, .slice none 0 0], []⟩ 8 (by kernel_rfl) (by kernel_rfl) (by kernel_rfl) (by kernel_rfl)) ?_
  intro W base args ds gs before hval0 hW hcnd _
  have hval : ∀ (j : Nat) t v, Try.f12.params[j]? = some t → args[j]? = some v → Value.okWide Try.prog W .any base t v := hval0
  have hW' := hW
  obtain ⟨p, q, hA0, hV, rfl, hfz, hnd⟩ := hW
  have hA : DataW.TrodAll enc Try.prog W 0 (fun _ => true) true Try.f12.params.toList args.toList ds p := hA0
  rw [Try.params12] at hA hval
  obtain ⟨v0, vs0, d0, ds0, p0, q0, hargs, rfl, rfl, h0, r0⟩ := trodAll_cons hA
  obtain ⟨v1, vs1, d1, ds1, p1, q1, rfl, rfl, rfl, h1, r1⟩ := trodAll_cons r0
  obtain ⟨rfl, rfl, rfl⟩ := trodAll_nil r1
  obtain rfl : args = #[v0, v1] := by cases args; simp_all
  obtain ⟨rfl, rfl⟩ := trodVars_none hV
  have k0 := h0
  have lt0 : ∀ x ∈ p0, x.block < W.heap.size := by obtain ⟨m, hm⟩ := k0; exact DataW.trod_lt m _ _ _ hm
  have k1 := h1
  have lt1 : ∀ x ∈ p1, x.block < W.heap.size := by obtain ⟨m, hm⟩ := k1; exact DataW.trod_lt m _ _ _ hm
  obtain ⟨a0, rfl, w0⟩ := open_ops (hval 0 22 v0 rfl rfl) h0
  obtain ⟨a1, rfl, w1⟩ := open_ops (hval 1 22 v1 rfl rfl) h1
  clear hA0 hval0
  refine (topKept_row W a0 w0 a1 w1).mono fun e W' ⟨he, bel⟩ => ?_
  subst he
  exact ⟨_, rfl, _, _, _, [], _, [], hW', trodAll_mk1 (shut_bool Try.underlying4 _), (trodAll_cons_mk (Below.trod facts.laid (by kernel_rfl) (of_decide_eq_true (by kernel_rfl)) k0 bel lt0) (trodAll_cons_mk (Below.trod facts.laid (by kernel_rfl) (of_decide_eq_true (by kernel_rfl)) k1 bel lt1) trodAll_mk0)), rfl, bel.frame _, fun h => by cases h⟩
theorem j1 : (Rows.topKeptRow.wf (OpenSpec.ofChange Rows.topKeptSpec)) = true := by kernel_rfl
theorem j4 : (Try.f12.params.all (Try.prog.readableRec ·)) = true := by kernel_rfl
theorem j5 : (namedTie Try.prog Rows.topKeptRow.named Rows.topKeptSpec.vars) = true := by kernel_rfl
theorem j10 : ((Rows.topKeptRow.inPlace == Try.prog.inPlace 12)) = true := by kernel_rfl
theorem j11 : ((Rows.topKeptRow.unfollowed == Try.prog.unfollowed 12)) = true := by kernel_rfl
theorem j12 : ((Rows.topKeptRow.recurses == Try.prog.recurses 12)) = true := by kernel_rfl
theorem j13 : ((Rows.topKeptRow.named == Try.prog.varsNamed 12)) = true := by kernel_rfl
theorem j14 : ((Rows.topKeptRow.maps == (Try.f12.params.toList ++ Rows.topKeptSpec.plain.varTypes Try.prog).any (Try.prog.mapsRec ·))) = true := by kernel_rfl
theorem j15 : ((Rows.topKeptRow.ifaces == (Try.f12.params.toList ++ Rows.topKeptSpec.plain.varTypes Try.prog).any (Try.prog.ifacesRec ·))) = true := by kernel_rfl
theorem j16 : ((Rows.topKeptRow.mapsOut == Try.prog.mapsAmong Try.f12.resultTypes.toList)) = true := by kernel_rfl
theorem j17 : ((Rows.topKeptRow.loops == (Try.f12.params.toList ++ Rows.topKeptSpec.plain.varTypes Try.prog).any (Try.prog.loopsFrom ·))) = true := by kernel_rfl
theorem j18 : ((Rows.topKeptRow.wideKeys == (Try.f12.params.toList ++ Rows.topKeptSpec.plain.varTypes Try.prog ++ Try.f12.resultTypes.toList).any (Try.prog.wideKeysFrom ·))) = true := by kernel_rfl
theorem j19 : (Rows.topKeptSpec.vars.all (Try.prog.varReadable ·)) = true := by kernel_rfl
theorem j20 : (Try.f12.resultTypes.all (fun t => Try.prog.readableRec t && decide (t < Try.prog.types.size))) = true := by kernel_rfl
theorem j21 : ((Rows.topKeptRow.ifacesOut == Try.f12.resultTypes.toList.any (Try.prog.ifacesRec ·))) = true := by kernel_rfl
theorem j22 : ((Rows.topKeptRow.loopsOut == Try.f12.resultTypes.toList.any (Try.prog.loopsFrom ·))) = true := by kernel_rfl
theorem j30 : ((Rows.topKeptRow.pinned == Rows.topKeptRow.pinnedBy)) = true := by kernel_rfl
theorem j31 : ((Rows.topKeptRow.veiled == (Try.f12.params.toList ++ Rows.topKeptSpec.plain.varTypes Try.prog ++ Try.f12.resultTypes.toList).any (Try.prog.veiledRec ·))) = true := by kernel_rfl
theorem j32 : (Rows.topKeptRow.veiledFits Try.prog Try.f12.params.toList (Try.f12.params.toList ++ Rows.topKeptSpec.plain.varTypes Try.prog ++ Try.f12.resultTypes.toList)) = true := by kernel_rfl
theorem j23 : (Rows.topKeptRow.plainKeys == Try.prog.plainKeys) = true := by rw [facts.plain]; rfl
theorem j27 : (Rows.topKeptRow.lifted == Try.prog.liftsFinal) = true := by rw [facts.lifts]; rfl
theorem j28 : (Try.prog.make == some Rows.topKeptRow.make) = true := by rw [facts.make]; kernel_rfl
set_option maxRecDepth 100000 in
theorem closed : joinedFacts Try.prog 12 Try.f12 Rows.topKeptSpec Rows.topKeptRow = true :=
  facts.joined_of Try.prog 12 Try.f12 Rows.topKeptSpec Rows.topKeptRow j1 facts.laid facts.rowed j4 j5 rfl facts.stops' rfl facts.knobs' j10 j11 j12 j13 j14 j15 j16 j17 j18 j19 j20 j21 j22 j23 rfl facts.heard facts.mayEnter j27 j28 rfl rfl j30 j31 j32
theorem over : Rows.topKeptRow.holds Try.pinned (OpenSpec.ofChange Rows.topKeptSpec) :=
  OpenClaim.holds_of_wide 12 Try.f12 rfl rfl rfl rfl rfl rfl rfl ⟨rfl, rfl, rfl, rfl, rfl⟩ rfl rfl rfl rfl rfl (by kernel_rfl) Try.func12 closed
    (of_decide_eq_true (by kernel_rfl)) (by unfold Func.isWrapper; first | (rw [if_pos (by decide +kernel)]; kernel_rfl) | (rw [if_neg (by decide +kernel)]; exact ⟨rfl, rfl⟩))
    (fun os started H enc _ => lifted os started H enc)
theorem proved : Rows.TopKeptSaid := over
end Go.Proofs.Ytgkemeclpidmcaa.topKept
