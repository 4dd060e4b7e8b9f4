/- flickerbooklaw.PackSays returns true for every input, and each argument reads behind the call as before. Conditions: none. -/
import Derived.Test.YteiicekadcihcaaRows
import Derived.Test.YteiicekadcihcaaLawPack
import Derived.ProofKit
import Derived.OpenShut
import Derived.ShutString
import Derived.ChangeOld
import Derived.Below
import Derived.Lib.SmallJoins
import Derived.Test.YteiicekadcihcaaFacts
namespace Go.Proofs.Yteiicekadcihcaa.packSays
open Go.ChangeShapes Go.WideShapes Go.ChangeAt Go.RowKit Go.Joins Fb
open Go.ChangeMaps (open_string shut_string)
set_option maxRecDepth 100000 in
theorem lifted (os : Os) (started : os.Started) (H : Type) (enc : TypeId × Value → H) :
    ReturnsInHanded {} Try.checked os 4 .any (Rows.packSaysSpec.pre6 enc Try.prog Try.f4 Rows.packSaysRow.domain false) (Rows.packSaysSpec.post enc Try.prog Try.f4 false true false false) := by
  refine returnsInHanded_of_change (C := Try.checked) facts.own started (by kernel_rfl) Try.func4
    (ChangeSpec.witness6 (enc := enc) (C := Try.checked) false ⟨#[], #[.string ByteArray.empty, .string ByteArray.empty, .int .i64 0], []⟩ 8 (by kernel_rfl) (by kernel_rfl) (by kernel_rfl) (by kernel_rfl)) ?_
  intro W base args ds gs before hval0 hW hcnd _
  have hval : ∀ (j : Nat) t v, Try.f4.params[j]? = some t → args[j]? = some v → Value.okWide Try.prog W .any base t v := hval0
  have hW' := hW
  obtain ⟨p, q, hA0, hV, rfl, hfz, hnd⟩ := hW
  have hA : DataW.TrodAll enc Try.prog W 0 (fun _ => true) true Try.f4.params.toList args.toList ds p := hA0
  rw [Try.params4] at hA hval
  obtain ⟨v0, vs0, d0, ds0, p0, q0, hargs, rfl, rfl, h0, r0⟩ := trodAll_cons hA
  obtain ⟨v1, vs1, d1, ds1, p1, q1, rfl, rfl, rfl, h1, r1⟩ := trodAll_cons r0
  obtain ⟨v2, vs2, d2, ds2, p2, q2, rfl, rfl, rfl, h2, r2⟩ := trodAll_cons r1
  obtain ⟨rfl, rfl, rfl⟩ := trodAll_nil r2
  obtain rfl : args = #[v0, v1, v2] := by cases args; simp_all
  obtain ⟨rfl, rfl⟩ := trodVars_none hV
  have k0 := h0
  have lt0 : ∀ x ∈ p0, x.block < W.heap.size := by obtain ⟨m, hm⟩ := k0; exact DataW.trod_lt m _ _ _ hm
  have k1 := h1
  have lt1 : ∀ x ∈ p1, x.block < W.heap.size := by obtain ⟨m, hm⟩ := k1; exact DataW.trod_lt m _ _ _ hm
  have k2 := h2
  have lt2 : ∀ x ∈ p2, x.block < W.heap.size := by obtain ⟨m, hm⟩ := k2; exact DataW.trod_lt m _ _ _ hm
  obtain ⟨a0, rfl, -, -, w0⟩ := open_string Try.underlying9 (hval 0 9 v0 rfl rfl) h0
  obtain ⟨a1, rfl, -, -, w1⟩ := open_string Try.underlying9 (hval 1 9 v1 rfl rfl) h1
  obtain ⟨a2, rfl, -, -, w2⟩ := open_int Try.underlying3 (hval 2 3 v2 rfl rfl) h2
  clear hA0 hval0
  refine (packSays_row W a0 w0 a1 w1 a2 w2).mono fun e W' ⟨he, bel⟩ => ?_
  subst he
  exact ⟨_, rfl, _, _, _, [], _, [], hW', trodAll_mk1 (shut_bool Try.underlying4 _), (trodAll_cons_mk (Below.trod facts.laid (by kernel_rfl) (of_decide_eq_true (by kernel_rfl)) k0 bel lt0) (trodAll_cons_mk (Below.trod facts.laid (by kernel_rfl) (of_decide_eq_true (by kernel_rfl)) k1 bel lt1) (trodAll_cons_mk (Below.trod facts.laid (by kernel_rfl) (of_decide_eq_true (by kernel_rfl)) k2 bel lt2) trodAll_mk0))), rfl, bel.frame _, fun h => by cases h⟩
theorem j1 : (Rows.packSaysRow.wf (OpenSpec.ofChange Rows.packSaysSpec)) = true := by kernel_rfl
theorem j4 : (Try.f4.params.all (Try.prog.readableRec ·)) = true := by kernel_rfl
theorem j5 : (namedTie Try.prog Rows.packSaysRow.named Rows.packSaysSpec.vars) = true := by kernel_rfl
theorem j10 : ((Rows.packSaysRow.inPlace == Try.prog.inPlace 4)) = true := by kernel_rfl
theorem j11 : ((Rows.packSaysRow.unfollowed == Try.prog.unfollowed 4)) = true := by kernel_rfl
theorem j12 : ((Rows.packSaysRow.recurses == Try.prog.recurses 4)) = true := by kernel_rfl
theorem j13 : ((Rows.packSaysRow.named == Try.prog.varsNamed 4)) = true := by kernel_rfl
theorem j14 : ((Rows.packSaysRow.maps == (Try.f4.params.toList ++ Rows.packSaysSpec.plain.varTypes Try.prog).any (Try.prog.mapsRec ·))) = true := by kernel_rfl
theorem j15 : ((Rows.packSaysRow.ifaces == (Try.f4.params.toList ++ Rows.packSaysSpec.plain.varTypes Try.prog).any (Try.prog.ifacesRec ·))) = true := by kernel_rfl
theorem j16 : ((Rows.packSaysRow.mapsOut == Try.prog.mapsAmong Try.f4.resultTypes.toList)) = true := by kernel_rfl
theorem j17 : ((Rows.packSaysRow.loops == (Try.f4.params.toList ++ Rows.packSaysSpec.plain.varTypes Try.prog).any (Try.prog.loopsFrom ·))) = true := by kernel_rfl
theorem j18 : ((Rows.packSaysRow.wideKeys == (Try.f4.params.toList ++ Rows.packSaysSpec.plain.varTypes Try.prog ++ Try.f4.resultTypes.toList).any (Try.prog.wideKeysFrom ·))) = true := by kernel_rfl
theorem j19 : (Rows.packSaysSpec.vars.all (Try.prog.varReadable ·)) = true := by kernel_rfl
theorem j20 : (Try.f4.resultTypes.all (fun t => Try.prog.readableRec t && decide (t < Try.prog.types.size))) = true := by kernel_rfl
theorem j21 : ((Rows.packSaysRow.ifacesOut == Try.f4.resultTypes.toList.any (Try.prog.ifacesRec ·))) = true := by kernel_rfl
theorem j22 : ((Rows.packSaysRow.loopsOut == Try.f4.resultTypes.toList.any (Try.prog.loopsFrom ·))) = true := by kernel_rfl
theorem j30 : ((Rows.packSaysRow.pinned == Rows.packSaysRow.pinnedBy)) = true := by kernel_rfl
theorem j31 : ((Rows.packSaysRow.veiled == (Try.f4.params.toList ++ Rows.packSaysSpec.plain.varTypes Try.prog ++ Try.f4.resultTypes.toList).any (Try.prog.veiledRec ·))) = true := by kernel_rfl
theorem j32 : (Rows.packSaysRow.veiledFits Try.prog Try.f4.params.toList (Try.f4.params.toList ++ Rows.packSaysSpec.plain.varTypes Try.prog ++ Try.f4.resultTypes.toList)) = true := by kernel_rfl
theorem j23 : (Rows.packSaysRow.plainKeys == Try.prog.plainKeys) = true := by rw [facts.plain]; rfl
theorem j27 : (Rows.packSaysRow.lifted == Try.prog.liftsFinal) = true := by rw [facts.lifts]; rfl
theorem j28 : (Try.prog.make == some Rows.packSaysRow.make) = true := by rw [facts.make]; kernel_rfl
set_option maxRecDepth 100000 in
theorem closed : joinedFacts Try.prog 4 Try.f4 Rows.packSaysSpec Rows.packSaysRow = true :=
  facts.joined_of Try.prog 4 Try.f4 Rows.packSaysSpec Rows.packSaysRow j1 facts.laid facts.rowed j4 j5 rfl facts.stops' rfl facts.knobs' j10 j11 j12 j13 j14 j15 j16 j17 j18 j19 j20 j21 j22 j23 rfl facts.heard facts.mayEnter j27 j28 rfl rfl j30 j31 j32
theorem over : Rows.packSaysRow.holds Try.pinned (OpenSpec.ofChange Rows.packSaysSpec) :=
  OpenClaim.holds_of_wide 4 Try.f4 rfl rfl rfl rfl rfl rfl rfl ⟨rfl, rfl, rfl, rfl, rfl⟩ rfl rfl rfl rfl rfl (by kernel_rfl) Try.func4 closed
    (of_decide_eq_true (by kernel_rfl)) (by unfold Func.isWrapper; first | (rw [if_pos (by decide +kernel)]; kernel_rfl) | (rw [if_neg (by decide +kernel)]; exact ⟨rfl, rfl⟩))
    (fun os started H enc _ => lifted os started H enc)
theorem proved : Rows.PackSaysSaid := over
end Go.Proofs.Yteiicekadcihcaa.packSays
