/- flickerbooktop.TopPack returns true for every input, and each argument reads behind the call as before. Conditions: none. -/
import Derived.Test.YteiicekadcihcaaRows
import Derived.Test.YteiicekadcihcaaTopPackW
import Derived.ProofKit
import Derived.OpenShut
import Derived.ShutString
import Derived.ChangeOld
import Derived.Below
import Derived.Lib.SmallJoins
import Derived.Test.YteiicekadcihcaaFacts
namespace Go.Proofs.Yteiicekadcihcaa.topPack
open Go.ChangeShapes Go.WideShapes Go.ChangeAt Go.RowKit Go.Joins Fb
open Go.ChangeMaps (open_string shut_string)
set_option maxRecDepth 100000 in
theorem lifted (os : Os) (started : os.Started) (H : Type) (enc : TypeId × Value → H) :
    ReturnsInHanded {} Try.checked os 6 .any (Rows.topPackSpec.pre6 enc Try.prog Try.f6 Rows.topPackRow.domain false) (Rows.topPackSpec.post enc Try.prog Try.f6 false true false false) := by
  refine returnsInHanded_of_change (C := Try.checked) facts.own started (by kernel_rfl) Try.func6
    (ChangeSpec.witness6 (enc := enc) (C := Try.checked) false ⟨#[], #[.string ByteArray.empty], []⟩ 8 (by kernel_rfl) (by kernel_rfl) (by kernel_rfl) (by kernel_rfl)) ?_
  intro W base args ds gs before hval0 hW hcnd _
  have hval : ∀ (j : Nat) t v, Try.f6.params[j]? = some t → args[j]? = some v → Value.okWide Try.prog W .any base t v := hval0
  have hW' := hW
  obtain ⟨p, q, hA0, hV, rfl, hfz, hnd⟩ := hW
  have hA : DataW.TrodAll enc Try.prog W 0 (fun _ => true) true Try.f6.params.toList args.toList ds p := hA0
  rw [Try.params6] at hA hval
  obtain ⟨v0, vs0, d0, ds0, p0, q0, hargs, rfl, rfl, h0, r0⟩ := trodAll_cons hA
  obtain ⟨rfl, rfl, rfl⟩ := trodAll_nil r0
  obtain rfl : args = #[v0] := by cases args; simp_all
  obtain ⟨rfl, rfl⟩ := trodVars_none hV
  have k0 := h0
  have lt0 : ∀ x ∈ p0, x.block < W.heap.size := by obtain ⟨m, hm⟩ := k0; exact DataW.trod_lt m _ _ _ hm
  obtain ⟨a0, rfl, -, -, w0⟩ := open_string Try.underlying9 (hval 0 9 v0 rfl rfl) h0
  clear hA0 hval0
  refine (topPack_row W a0 w0).mono fun e W' ⟨he, bel⟩ => ?_
  subst he
  exact ⟨_, rfl, _, _, _, [], _, [], hW', trodAll_mk1 (shut_bool Try.underlying4 _), (trodAll_cons_mk (Below.trod facts.laid (by kernel_rfl) (of_decide_eq_true (by kernel_rfl)) k0 bel lt0) trodAll_mk0), rfl, bel.frame _, fun h => by cases h⟩
theorem j1 : (Rows.topPackRow.wf (OpenSpec.ofChange Rows.topPackSpec)) = true := by kernel_rfl
theorem j4 : (Try.f6.params.all (Try.prog.readableRec ·)) = true := by kernel_rfl
theorem j5 : (namedTie Try.prog Rows.topPackRow.named Rows.topPackSpec.vars) = true := by kernel_rfl
theorem j10 : ((Rows.topPackRow.inPlace == Try.prog.inPlace 6)) = true := by kernel_rfl
theorem j11 : ((Rows.topPackRow.unfollowed == Try.prog.unfollowed 6)) = true := by kernel_rfl
theorem j12 : ((Rows.topPackRow.recurses == Try.prog.recurses 6)) = true := by kernel_rfl
theorem j13 : ((Rows.topPackRow.named == Try.prog.varsNamed 6)) = true := by kernel_rfl
theorem j14 : ((Rows.topPackRow.maps == (Try.f6.params.toList ++ Rows.topPackSpec.plain.varTypes Try.prog).any (Try.prog.mapsRec ·))) = true := by kernel_rfl
theorem j15 : ((Rows.topPackRow.ifaces == (Try.f6.params.toList ++ Rows.topPackSpec.plain.varTypes Try.prog).any (Try.prog.ifacesRec ·))) = true := by kernel_rfl
theorem j16 : ((Rows.topPackRow.mapsOut == Try.prog.mapsAmong Try.f6.resultTypes.toList)) = true := by kernel_rfl
theorem j17 : ((Rows.topPackRow.loops == (Try.f6.params.toList ++ Rows.topPackSpec.plain.varTypes Try.prog).any (Try.prog.loopsFrom ·))) = true := by kernel_rfl
theorem j18 : ((Rows.topPackRow.wideKeys == (Try.f6.params.toList ++ Rows.topPackSpec.plain.varTypes Try.prog ++ Try.f6.resultTypes.toList).any (Try.prog.wideKeysFrom ·))) = true := by kernel_rfl
theorem j19 : (Rows.topPackSpec.vars.all (Try.prog.varReadable ·)) = true := by kernel_rfl
theorem j20 : (Try.f6.resultTypes.all (fun t => Try.prog.readableRec t && decide (t < Try.prog.types.size))) = true := by kernel_rfl
theorem j21 : ((Rows.topPackRow.ifacesOut == Try.f6.resultTypes.toList.any (Try.prog.ifacesRec ·))) = true := by kernel_rfl
theorem j22 : ((Rows.topPackRow.loopsOut == Try.f6.resultTypes.toList.any (Try.prog.loopsFrom ·))) = true := by kernel_rfl
theorem j30 : ((Rows.topPackRow.pinned == Rows.topPackRow.pinnedBy)) = true := by kernel_rfl
theorem j31 : ((Rows.topPackRow.veiled == (Try.f6.params.toList ++ Rows.topPackSpec.plain.varTypes Try.prog ++ Try.f6.resultTypes.toList).any (Try.prog.veiledRec ·))) = true := by kernel_rfl
theorem j32 : (Rows.topPackRow.veiledFits Try.prog Try.f6.params.toList (Try.f6.params.toList ++ Rows.topPackSpec.plain.varTypes Try.prog ++ Try.f6.resultTypes.toList)) = true := by kernel_rfl
theorem j23 : (Rows.topPackRow.plainKeys == Try.prog.plainKeys) = true := by rw [facts.plain]; rfl
theorem j27 : (Rows.topPackRow.lifted == Try.prog.liftsFinal) = true := by rw [facts.lifts]; rfl
theorem j28 : (Try.prog.make == some Rows.topPackRow.make) = true := by rw [facts.make]; kernel_rfl
set_option maxRecDepth 100000 in
theorem closed : joinedFacts Try.prog 6 Try.f6 Rows.topPackSpec Rows.topPackRow = true :=
  facts.joined_of Try.prog 6 Try.f6 Rows.topPackSpec Rows.topPackRow j1 facts.laid facts.rowed j4 j5 rfl facts.stops' rfl facts.knobs' j10 j11 j12 j13 j14 j15 j16 j17 j18 j19 j20 j21 j22 j23 rfl facts.heard facts.mayEnter j27 j28 rfl rfl j30 j31 j32
theorem over : Rows.topPackRow.holds Try.pinned (OpenSpec.ofChange Rows.topPackSpec) :=
  OpenClaim.holds_of_wide 6 Try.f6 rfl rfl rfl rfl rfl rfl rfl ⟨rfl, rfl, rfl, rfl, rfl⟩ rfl rfl rfl rfl rfl (by kernel_rfl) Try.func6 closed
    (of_decide_eq_true (by kernel_rfl)) (by unfold Func.isWrapper; first | (rw [if_pos (by decide +kernel)]; kernel_rfl) | (rw [if_neg (by decide +kernel)]; exact ⟨rfl, rfl⟩))
    (fun os started H enc _ => lifted os started H enc)
theorem proved : Rows.TopPackSaid := over
end Go.Proofs.Yteiicekadcihcaa.topPack
