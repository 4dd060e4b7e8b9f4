/- flickerbooktop.TopOver returns true for every input, and each argument reads behind the call as before. Conditions: none. -/
import Derived.Test.YteiicekadcihcaaRows
import Derived.Test.YteiicekadcihcaaTopOverW
import Derived.ProofKit
import Derived.OpenShut
import Derived.ShutString
import Derived.ChangeOld
import Derived.Below
import Derived.Lib.SmallJoins
import Derived.Test.YteiicekadcihcaaFacts
import Derived.Test.YteiicekadcihcaaOpen
namespace Go.Proofs.Yteiicekadcihcaa.topOver
open Go.ChangeShapes Go.WideShapes Go.ChangeAt Go.RowKit Go.Joins Fb
open Go.ChangeMaps (open_string shut_string)
set_option maxRecDepth 100000 in
theorem lifted (os : Os) (started : os.Started) (H : Type) (enc : TypeId × Value → H) :
    ReturnsInHanded {} Try.checked os 5 .any (Rows.topOverSpec.pre6 enc Try.prog Try.f5 Rows.topOverRow.domain false) (Rows.topOverSpec.post enc Try.prog Try.f5 false true false false) := by
  refine returnsInHanded_of_change (C := Try.checked) facts.own started (by kernel_rfl) Try.func5
    (ChangeSpec.witness6 (enc := enc) (C := Try.checked) false ⟨#[], #[.agg #[.int .i64 0, .int .i64 0], .agg #[.int .i64 0, .int .i64 0]], []⟩ 8 (by kernel_rfl) (by kernel_rfl) (by kernel_rfl) (by kernel_rfl)) ?_
  intro W base args ds gs before hval0 hW hcnd _
  have hval : ∀ (j : Nat) t v, Try.f5.params[j]? = some t → args[j]? = some v → Value.okWide Try.prog W .any base t v := hval0
  have hW' := hW
  obtain ⟨p, q, hA0, hV, rfl, hfz, hnd⟩ := hW
  have hA : DataW.TrodAll enc Try.prog W 0 (fun _ => true) true Try.f5.params.toList args.toList ds p := hA0
  rw [Try.params5] at hA hval
  obtain ⟨v0, vs0, d0, ds0, p0, q0, hargs, rfl, rfl, h0, r0⟩ := trodAll_cons hA
  obtain ⟨v1, vs1, d1, ds1, p1, q1, rfl, rfl, rfl, h1, r1⟩ := trodAll_cons r0
  obtain ⟨rfl, rfl, rfl⟩ := trodAll_nil r1
  obtain rfl : args = #[v0, v1] := by cases args; simp_all
  obtain ⟨rfl, rfl⟩ := trodVars_none hV
  have k0 := h0
  have lt0 : ∀ x ∈ p0, x.block < W.heap.size := by obtain ⟨m, hm⟩ := k0; exact DataW.trod_lt m _ _ _ hm
  have k1 := h1
  have lt1 : ∀ x ∈ p1, x.block < W.heap.size := by obtain ⟨m, hm⟩ := k1; exact DataW.trod_lt m _ _ _ hm
  obtain ⟨a0, rfl, w0⟩ := open_px (hval 0 39 v0 rfl rfl) h0
  obtain ⟨a1, rfl, w1⟩ := open_px (hval 1 39 v1 rfl rfl) h1
  clear hA0 hval0
  refine (topOver_row W a0 w0 a1 w1).mono fun e W' ⟨he, bel⟩ => ?_
  subst he
  exact ⟨_, rfl, _, _, _, [], _, [], hW', trodAll_mk1 (shut_bool Try.underlying4 _), (trodAll_cons_mk (Below.trod facts.laid (by kernel_rfl) (of_decide_eq_true (by kernel_rfl)) k0 bel lt0) (trodAll_cons_mk (Below.trod facts.laid (by kernel_rfl) (of_decide_eq_true (by kernel_rfl)) k1 bel lt1) trodAll_mk0)), rfl, bel.frame _, fun h => by cases h⟩
theorem j1 : (Rows.topOverRow.wf (OpenSpec.ofChange Rows.topOverSpec)) = true := by kernel_rfl
theorem j4 : (Try.f5.params.all (Try.prog.readableRec ·)) = true := by kernel_rfl
theorem j5 : (namedTie Try.prog Rows.topOverRow.named Rows.topOverSpec.vars) = true := by kernel_rfl
theorem j10 : ((Rows.topOverRow.inPlace == Try.prog.inPlace 5)) = true := by kernel_rfl
theorem j11 : ((Rows.topOverRow.unfollowed == Try.prog.unfollowed 5)) = true := by kernel_rfl
theorem j12 : ((Rows.topOverRow.recurses == Try.prog.recurses 5)) = true := by kernel_rfl
theorem j13 : ((Rows.topOverRow.named == Try.prog.varsNamed 5)) = true := by kernel_rfl
theorem j14 : ((Rows.topOverRow.maps == (Try.f5.params.toList ++ Rows.topOverSpec.plain.varTypes Try.prog).any (Try.prog.mapsRec ·))) = true := by kernel_rfl
theorem j15 : ((Rows.topOverRow.ifaces == (Try.f5.params.toList ++ Rows.topOverSpec.plain.varTypes Try.prog).any (Try.prog.ifacesRec ·))) = true := by kernel_rfl
theorem j16 : ((Rows.topOverRow.mapsOut == Try.prog.mapsAmong Try.f5.resultTypes.toList)) = true := by kernel_rfl
theorem j17 : ((Rows.topOverRow.loops == (Try.f5.params.toList ++ Rows.topOverSpec.plain.varTypes Try.prog).any (Try.prog.loopsFrom ·))) = true := by kernel_rfl
theorem j18 : ((Rows.topOverRow.wideKeys == (Try.f5.params.toList ++ Rows.topOverSpec.plain.varTypes Try.prog ++ Try.f5.resultTypes.toList).any (Try.prog.wideKeysFrom ·))) = true := by kernel_rfl
theorem j19 : (Rows.topOverSpec.vars.all (Try.prog.varReadable ·)) = true := by kernel_rfl
theorem j20 : (Try.f5.resultTypes.all (fun t => Try.prog.readableRec t && decide (t < Try.prog.types.size))) = true := by kernel_rfl
theorem j21 : ((Rows.topOverRow.ifacesOut == Try.f5.resultTypes.toList.any (Try.prog.ifacesRec ·))) = true := by kernel_rfl
theorem j22 : ((Rows.topOverRow.loopsOut == Try.f5.resultTypes.toList.any (Try.prog.loopsFrom ·))) = true := by kernel_rfl
theorem j30 : ((Rows.topOverRow.pinned == Rows.topOverRow.pinnedBy)) = true := by kernel_rfl
theorem j31 : ((Rows.topOverRow.veiled == (Try.f5.params.toList ++ Rows.topOverSpec.plain.varTypes Try.prog ++ Try.f5.resultTypes.toList).any (Try.prog.veiledRec ·))) = true := by kernel_rfl
theorem j32 : (Rows.topOverRow.veiledFits Try.prog Try.f5.params.toList (Try.f5.params.toList ++ Rows.topOverSpec.plain.varTypes Try.prog ++ Try.f5.resultTypes.toList)) = true := by kernel_rfl
theorem j23 : (Rows.topOverRow.plainKeys == Try.prog.plainKeys) = true := by rw [facts.plain]; rfl
theorem j27 : (Rows.topOverRow.lifted == Try.prog.liftsFinal) = true := by rw [facts.lifts]; rfl
theorem j28 : (Try.prog.make == some Rows.topOverRow.make) = true := by rw [facts.make]; kernel_rfl
set_option maxRecDepth 100000 in
theorem closed : joinedFacts Try.prog 5 Try.f5 Rows.topOverSpec Rows.topOverRow = true :=
  facts.joined_of Try.prog 5 Try.f5 Rows.topOverSpec Rows.topOverRow j1 facts.laid facts.rowed j4 j5 rfl facts.stops' rfl facts.knobs' j10 j11 j12 j13 j14 j15 j16 j17 j18 j19 j20 j21 j22 j23 rfl facts.heard facts.mayEnter j27 j28 rfl rfl j30 j31 j32
theorem over : Rows.topOverRow.holds Try.pinned (OpenSpec.ofChange Rows.topOverSpec) :=
  OpenClaim.holds_of_wide 5 Try.f5 rfl rfl rfl rfl rfl rfl rfl ⟨rfl, rfl, rfl, rfl, rfl⟩ rfl rfl rfl rfl rfl (by kernel_rfl) Try.func5 closed
    (of_decide_eq_true (by kernel_rfl)) (by unfold Func.isWrapper; first | (rw [if_pos (by decide +kernel)]; kernel_rfl) | (rw [if_neg (by decide +kernel)]; exact ⟨rfl, rfl⟩))
    (fun os started H enc _ => lifted os started H enc)
theorem proved : Rows.TopOverSaid := over
end Go.Proofs.Yteiicekadcihcaa.topOver
