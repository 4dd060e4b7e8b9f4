/- flickerbooklaw.RectSays returns true for every input, and each argument reads behind the call as before. Conditions: none. -/
import Derived.Test.YteiicekadcihcaaRows
import Derived.Test.YteiicekadcihcaaLawRect
import Derived.ProofKit
import Derived.OpenShut
import Derived.ShutString
import Derived.ChangeOld
import Derived.Below
import Derived.Lib.SmallJoins
import Derived.Test.YteiicekadcihcaaFacts
import Derived.Test.YteiicekadcihcaaOpen
namespace Go.Proofs.Yteiicekadcihcaa.rectSays
open Go.ChangeShapes Go.WideShapes Go.ChangeAt Go.RowKit Go.Joins Fb
open Go.ChangeMaps (open_string shut_string)
set_option maxRecDepth 100000 in
theorem lifted (os : Os) (started : os.Started) (H : Type) (enc : TypeId × Value → H) :
    ReturnsInHanded {} Try.checked os 3 .any (Rows.rectSaysSpec.pre6 enc Try.prog Try.f3 Rows.rectSaysRow.domain false) (Rows.rectSaysSpec.post enc Try.prog Try.f3 false true false false) := by
  refine returnsInHanded_of_change (C := Try.checked) facts.own started (by kernel_rfl) Try.func3
    (ChangeSpec.witness6 (enc := enc) (C := Try.checked) false ⟨#[], #[.agg #[.int .i64 0, .int .i64 0, .int .i64 0, .int .i64 0], .agg #[.int .i64 0, .int .i64 0, .int .i64 0, .int .i64 0], .int .i64 0, .int .i64 0], []⟩ 8 (by kernel_rfl) (by kernel_rfl) (by kernel_rfl) (by kernel_rfl)) ?_
  intro W base args ds gs before hval0 hW hcnd _
  have hval : ∀ (j : Nat) t v, Try.f3.params[j]? = some t → args[j]? = some v → Value.okWide Try.prog W .any base t v := hval0
  have hW' := hW
  obtain ⟨p, q, hA0, hV, rfl, hfz, hnd⟩ := hW
  have hA : DataW.TrodAll enc Try.prog W 0 (fun _ => true) true Try.f3.params.toList args.toList ds p := hA0
  rw [Try.params3] at hA hval
  obtain ⟨v0, vs0, d0, ds0, p0, q0, hargs, rfl, rfl, h0, r0⟩ := trodAll_cons hA
  obtain ⟨v1, vs1, d1, ds1, p1, q1, rfl, rfl, rfl, h1, r1⟩ := trodAll_cons r0
  obtain ⟨v2, vs2, d2, ds2, p2, q2, rfl, rfl, rfl, h2, r2⟩ := trodAll_cons r1
  obtain ⟨v3, vs3, d3, ds3, p3, q3, rfl, rfl, rfl, h3, r3⟩ := trodAll_cons r2
  obtain ⟨rfl, rfl, rfl⟩ := trodAll_nil r3
  obtain rfl : args = #[v0, v1, v2, v3] := by cases args; simp_all
  obtain ⟨rfl, rfl⟩ := trodVars_none hV
  have k0 := h0
  have lt0 : ∀ x ∈ p0, x.block < W.heap.size := by obtain ⟨m, hm⟩ := k0; exact DataW.trod_lt m _ _ _ hm
  have k1 := h1
  have lt1 : ∀ x ∈ p1, x.block < W.heap.size := by obtain ⟨m, hm⟩ := k1; exact DataW.trod_lt m _ _ _ hm
  have k2 := h2
  have lt2 : ∀ x ∈ p2, x.block < W.heap.size := by obtain ⟨m, hm⟩ := k2; exact DataW.trod_lt m _ _ _ hm
  have k3 := h3
  have lt3 : ∀ x ∈ p3, x.block < W.heap.size := by obtain ⟨m, hm⟩ := k3; exact DataW.trod_lt m _ _ _ hm
  obtain ⟨a0, rfl, w0⟩ := open_rect (hval 0 23 v0 rfl rfl) h0
  obtain ⟨a1, rfl, w1⟩ := open_rect (hval 1 23 v1 rfl rfl) h1
  obtain ⟨a2, rfl, -, -, w2⟩ := open_int Try.underlying3 (hval 2 3 v2 rfl rfl) h2
  obtain ⟨a3, rfl, -, -, w3⟩ := open_int Try.underlying3 (hval 3 3 v3 rfl rfl) h3
  clear hA0 hval0
  refine (rectSays_row W a0 w0 a1 w1 a2 w2 a3 w3).mono fun e W' ⟨he, bel⟩ => ?_
  subst he
  exact ⟨_, rfl, _, _, _, [], _, [], hW', trodAll_mk1 (shut_bool Try.underlying4 _), (trodAll_cons_mk (Below.trod facts.laid (by kernel_rfl) (of_decide_eq_true (by kernel_rfl)) k0 bel lt0) (trodAll_cons_mk (Below.trod facts.laid (by kernel_rfl) (of_decide_eq_true (by kernel_rfl)) k1 bel lt1) (trodAll_cons_mk (Below.trod facts.laid (by kernel_rfl) (of_decide_eq_true (by kernel_rfl)) k2 bel lt2) (trodAll_cons_mk (Below.trod facts.laid (by kernel_rfl) (of_decide_eq_true (by kernel_rfl)) k3 bel lt3) trodAll_mk0)))), rfl, bel.frame _, fun h => by cases h⟩
theorem j1 : (Rows.rectSaysRow.wf (OpenSpec.ofChange Rows.rectSaysSpec)) = true := by kernel_rfl
theorem j4 : (Try.f3.params.all (Try.prog.readableRec ·)) = true := by kernel_rfl
theorem j5 : (namedTie Try.prog Rows.rectSaysRow.named Rows.rectSaysSpec.vars) = true := by kernel_rfl
theorem j10 : ((Rows.rectSaysRow.inPlace == Try.prog.inPlace 3)) = true := by kernel_rfl
theorem j11 : ((Rows.rectSaysRow.unfollowed == Try.prog.unfollowed 3)) = true := by kernel_rfl
theorem j12 : ((Rows.rectSaysRow.recurses == Try.prog.recurses 3)) = true := by kernel_rfl
theorem j13 : ((Rows.rectSaysRow.named == Try.prog.varsNamed 3)) = true := by kernel_rfl
theorem j14 : ((Rows.rectSaysRow.maps == (Try.f3.params.toList ++ Rows.rectSaysSpec.plain.varTypes Try.prog).any (Try.prog.mapsRec ·))) = true := by kernel_rfl
theorem j15 : ((Rows.rectSaysRow.ifaces == (Try.f3.params.toList ++ Rows.rectSaysSpec.plain.varTypes Try.prog).any (Try.prog.ifacesRec ·))) = true := by kernel_rfl
theorem j16 : ((Rows.rectSaysRow.mapsOut == Try.prog.mapsAmong Try.f3.resultTypes.toList)) = true := by kernel_rfl
theorem j17 : ((Rows.rectSaysRow.loops == (Try.f3.params.toList ++ Rows.rectSaysSpec.plain.varTypes Try.prog).any (Try.prog.loopsFrom ·))) = true := by kernel_rfl
theorem j18 : ((Rows.rectSaysRow.wideKeys == (Try.f3.params.toList ++ Rows.rectSaysSpec.plain.varTypes Try.prog ++ Try.f3.resultTypes.toList).any (Try.prog.wideKeysFrom ·))) = true := by kernel_rfl
theorem j19 : (Rows.rectSaysSpec.vars.all (Try.prog.varReadable ·)) = true := by kernel_rfl
theorem j20 : (Try.f3.resultTypes.all (fun t => Try.prog.readableRec t && decide (t < Try.prog.types.size))) = true := by kernel_rfl
theorem j21 : ((Rows.rectSaysRow.ifacesOut == Try.f3.resultTypes.toList.any (Try.prog.ifacesRec ·))) = true := by kernel_rfl
theorem j22 : ((Rows.rectSaysRow.loopsOut == Try.f3.resultTypes.toList.any (Try.prog.loopsFrom ·))) = true := by kernel_rfl
theorem j30 : ((Rows.rectSaysRow.pinned == Rows.rectSaysRow.pinnedBy)) = true := by kernel_rfl
theorem j31 : ((Rows.rectSaysRow.veiled == (Try.f3.params.toList ++ Rows.rectSaysSpec.plain.varTypes Try.prog ++ Try.f3.resultTypes.toList).any (Try.prog.veiledRec ·))) = true := by kernel_rfl
theorem j32 : (Rows.rectSaysRow.veiledFits Try.prog Try.f3.params.toList (Try.f3.params.toList ++ Rows.rectSaysSpec.plain.varTypes Try.prog ++ Try.f3.resultTypes.toList)) = true := by kernel_rfl
theorem j23 : (Rows.rectSaysRow.plainKeys == Try.prog.plainKeys) = true := by rw [facts.plain]; rfl
theorem j27 : (Rows.rectSaysRow.lifted == Try.prog.liftsFinal) = true := by rw [facts.lifts]; rfl
theorem j28 : (Try.prog.make == some Rows.rectSaysRow.make) = true := by rw [facts.make]; kernel_rfl
set_option maxRecDepth 100000 in
theorem closed : joinedFacts Try.prog 3 Try.f3 Rows.rectSaysSpec Rows.rectSaysRow = true :=
  facts.joined_of Try.prog 3 Try.f3 Rows.rectSaysSpec Rows.rectSaysRow j1 facts.laid facts.rowed j4 j5 rfl facts.stops' rfl facts.knobs' j10 j11 j12 j13 j14 j15 j16 j17 j18 j19 j20 j21 j22 j23 rfl facts.heard facts.mayEnter j27 j28 rfl rfl j30 j31 j32
theorem over : Rows.rectSaysRow.holds Try.pinned (OpenSpec.ofChange Rows.rectSaysSpec) :=
  OpenClaim.holds_of_wide 3 Try.f3 rfl rfl rfl rfl rfl rfl rfl ⟨rfl, rfl, rfl, rfl, rfl⟩ rfl rfl rfl rfl rfl (by kernel_rfl) Try.func3 closed
    (of_decide_eq_true (by kernel_rfl)) (by unfold Func.isWrapper; first | (rw [if_pos (by decide +kernel)]; kernel_rfl) | (rw [if_neg (by decide +kernel)]; exact ⟨rfl, rfl⟩))
    (fun os started H enc _ => lifted os started H enc)
theorem proved : Rows.RectSaysSaid := over
end Go.Proofs.Yteiicekadcihcaa.rectSays
