/- Both machines side by side: what each call leaves. Conditions: those of each lemma. -/
import Derived.Test.YtgkemeclpidmcaaRPlayed
import Derived.Test.YtgkemeclpidmcaaReelLight
import Derived.Test.YtgkemeclpidmcaaSameOb
set_option linter.unusedSimpArgs false
set_option linter.unusedVariables false
namespace Fb
open Go Go.Proofs Go.RowKit Go.Sort
attribute [local go_sem ↓] Go.wp_at_zero Go.wp_at_succ
theorem Frames.belowT {w w' : World} {A : Option Addr} {n : Nat} {rs : List (FAt FFrame)} (h : Frames w A n rs) (hb : Below w.heap.size w w') : Frames w' A n rs := ⟨h.1, h.2.1.below hb, fun r hr => (h.2.2 r hr).below hb⟩
theorem play_fine (l : List FOp) (fuel : Int) : (playP l fuel).1.length ≤ 40 ∧ ∀ f ∈ (playP l fuel).1, PicFine f.pic := by
  unfold playP
  by_cases hf : bookFault l = 0
  · rw [if_neg (by omega)]
    have h := runM_ok (book_fine hf) (fuelN fuel) m0 (m0_ok (book_fine hf))
    unfold endM
    split
    · exact ⟨by simp, fun f h => by simp at h⟩
    · split
      · exact ⟨by simp, fun f h => by simp at h⟩
      · exact ⟨h.few, fun f hf => (h.pics f hf).1⟩
  · rw [if_pos hf]
    exact ⟨by simp, fun f h => by simp at h⟩
theorem frames_small {w : World} {A : Option Addr} {n : Nat} {rs : List (FAt FFrame)} {X : List FFrame} (h : Frames w A n rs) (hd : frD rs = X) (hl : X.length ≤ 40) (hp : ∀ f ∈ X, PicFine f.pic) : n ≤ 1000000 ∧ Small rs := by
  subst hd
  unfold frD at hl
  rw [List.length_map, h.1] at hl
  refine ⟨by omega, fun r hr => ?_⟩
  have h1 := h.2.2 r hr
  have h2 := pic_len (hp r.x (List.mem_map.2 ⟨r, hr, rfl⟩))
  have := h1.1
  omega
theorem objs_small {w : World} {A : Option Addr} {n : Nat} {rs : List (FAt FObj)} {X : List FObj} (h : Objs w A n rs) (hd : dat rs = X) (hf : ObjsFine X) : n ≤ 1000 ∧ ∀ r ∈ rs, r.n ≤ 1000000 := by
  subst hd
  have h6 := objs_few hf
  rw [dat_len, h.1] at h6
  refine ⟨by omega, fun r hr => ?_⟩
  have h1 := (h.2.2 r hr).1
  have h2 := pic_len (hf.2 r.x (List.mem_map.2 ⟨r, hr, rfl⟩)).2.2
  omega
/-- the frames of both are the same -/
theorem sameframes_true {w : World} {A B : Option Addr} {n m c d : Nat} {rs ss : List (FAt FFrame)} {X : List FFrame} (h : Frames w A n rs) (k : Frames w B m ss) (h1 : frD rs = X) (h2 : frD ss = X) (hl : X.length ≤ 40) (hp : ∀ f ∈ X, PicFine f.pic) :
    Calls Try.prog 19 #[.slice A n c, .slice B m d] w (Ret (.bool true) w) := by
  have a := frames_small h h1 hl hp
  have b := frames_small k h2 hl hp
  have C := rsameframes_any A B n m c d rs ss w h k a.1 b.1 a.2 b.2
  rw [show frs ss = frs rs from h2.trans h1.symm, eqFrs_self] at C
  exact C
/-- the machine in state s1, the reference's in state s2 -/
def Inv2 (l : List FOp) (s1 s2 : MSt) (B g y : Nat) (r : RSl) (w W : World) : Prop :=
  ∃ m : MSlots, MachW l s1 B g m W ∧ m.Y y ∧ RefW l s2 (m.O g) y r W ∧ Below w.heap.size w W ∧ w.heap.size ≤ B ∧ w.heap.size ≤ y
theorem Inv2.below {l : List FOp} {s1 s2 : MSt} {B g y : Nat} {r : RSl} {w W W' : World} (h : Inv2 l s1 s2 B g y r w W) (hb : Below W.heap.size W W') : Inv2 l s1 s2 B g y r w W' := by
  obtain ⟨m, h1, h2, h3, h4, h5, h6⟩ := h
  exact ⟨m, h1.below hb, h2, h3.below hb, bnext h4 hb, h5, h6⟩
theorem Inv2.old {l : List FOp} {s1 s2 : MSt} {B g y : Nat} {r : RSl} {w W : World} (h : Inv2 l s1 s2 B g y r w W) : Below w.heap.size w W := by
  obtain ⟨m, h1, h2, h3, h4, h5, h6⟩ := h
  exact h4
theorem Inv2.see {l : List FOp} {s1 s2 : MSt} {B g y : Nat} {r : RSl} {w W : World} (h : Inv2 l s1 s2 B g y r w W) {b o : Nat} {v : Value} (hb : b < w.heap.size) (hc : w.cell? ⟨b, o, none⟩ = some v) :
    W.cell? ⟨y, 1, none⟩ = some (.int .i64 (s2.at_ : Int)) ∧ W.cell? ⟨b, o, none⟩ = some v ∧ W.cell? ⟨y, 3, none⟩ = some (.slice r.oA r.on r.oc) ∧ W.cell? ⟨y, 7, none⟩ = some (.slice r.fA r.fn r.fc) := by
  obtain ⟨m, h1, h2, h3, h4, h5, h6⟩ := h
  obtain ⟨-, x1, -, x3, -, -, -, x7⟩ := h3.cell
  exact ⟨x1, (h4.cell (p := ⟨b, o, none⟩) hb).trans hc, x3, x7⟩
/-- e is v, and I holds -/
def Aft (v : Value) (I : World → Prop) (e : Ending) (w' : World) : Prop := e = .returned v ∧ I w'
theorem both_ref {l : List FOp} {s : MSt} {B g y : Nat} {r : RSl} {w W : World} (h : Inv2 l s s B g y r w W) (hf : BookFine l) (hok : MOk l s) :
    Calls Try.prog 22 #[.pointer (some ⟨y, 0, none⟩)] W (Aft (.int .i64 ((stepP l s).2 : Int)) (fun w' => ∃ r', Inv2 l s (stepP l s).1 B g y r' w w')) := by
  obtain ⟨m, h1, h2, h3, h4, h5, h6⟩ := h
  refine (rstep_any l s (m.O g) y r W h3 hf hok).mono ?_
  rintro e w' ⟨rfl, ⟨r', hr⟩, hk⟩
  exact ⟨rfl, r', m, h1.setY hk.grown h2, h2, hr, hk.toBelow h4 h4.size (fun b e => by have e : b = y := e; omega), h5, h6⟩
theorem both_step {l : List FOp} {s s2 : MSt} {B g y : Nat} {r : RSl} {w W : World} (h : Inv2 l s s2 B g y r w W) (hs : (stepP l s).1 = s2) (hf : BookFine l) (hok : MOk l s) :
    Calls Try.prog 23 #[.pointer (some ⟨g, 0, none⟩)] W (Aft (errV (stepP l s).2) (Inv2 l s2 s2 B g y r w)) := by
  obtain ⟨m, h1, h2, h3, h4, h5, h6⟩ := h
  subst hs
  refine (mstep_any l s B g m W h1 hf hok).mono ?_
  rintro e w' ⟨rfl, ⟨m', hm, hk, ho, hy⟩, hb⟩
  exact ⟨rfl, m', hm, by rw [hy]; exact h2, h3.beside hk ho (fun b e => hm.rest.Olt (Array.getElem?_eq_some_iff.1 hm.box).1 b e), h4.trans (hb.mono h5), h5, h6⟩
theorem both_at {l : List FOp} {s s2 : MSt} {B g y : Nat} {r : RSl} {w W : World} (h : Inv2 l s s2 B g y r w W) :
    Calls Try.prog 24 #[.pointer (some ⟨g, 0, none⟩)] W (Aft (.int .i64 (s.at_ : Int)) (Inv2 l s s2 B g y r w)) := by
  have H := h
  obtain ⟨m, h1, -⟩ := h
  refine (mat_any l s B g m W h1).mono ?_
  rintro e w' ⟨rfl, hb⟩
  exact ⟨rfl, H.below hb⟩
theorem both_done {l : List FOp} {s s2 : MSt} {B g y : Nat} {r : RSl} {w W : World} (h : Inv2 l s s2 B g y r w W) (hat : s.at_ < l.length) :
    Calls Try.prog 25 #[.pointer (some ⟨g, 0, none⟩)] W (Aft (.bool ((opAt l s.at_).kind == 16)) (Inv2 l s s2 B g y r w)) := by
  have H := h
  obtain ⟨m, h1, -⟩ := h
  refine (mdone_any l s B g m W h1 hat).mono ?_
  rintro e w' ⟨rfl, hb⟩
  exact ⟨rfl, H.below hb⟩
def ObsX (P : List FObj) (A : Option Addr) (n : Nat) (W : World) : Prop := ∃ rs, Objs W A n rs ∧ dat rs = P
def FrsX (P : List FFrame) (A : Option Addr) (n : Nat) (W : World) : Prop := ∃ rs, Frames W A n rs ∧ frD rs = P
def AftO (P : List FObj) (I : World → Prop) (e : Ending) (w' : World) : Prop := ∃ A n c, e = .returned (.slice A n c) ∧ ObsX P A n w' ∧ I w'
def AftF (P : List FFrame) (I : World → Prop) (e : Ending) (w' : World) : Prop := ∃ A n c, e = .returned (.slice A n c) ∧ FrsX P A n w' ∧ I w'
theorem both_objs {l : List FOp} {s s2 : MSt} {B g y : Nat} {r : RSl} {w W : World} (h : Inv2 l s s2 B g y r w W) (hok : MOk l s) :
    Calls Try.prog 27 #[.pointer (some ⟨g, 0, none⟩)] W (AftO s.objs (Inv2 l s s2 B g y r w)) := by
  have H := h
  obtain ⟨m, h1, -⟩ := h
  refine (mobjs_any l s B g m W h1 (by have := objs_few hok.objs; omega)).mono ?_
  rintro e w' ⟨A, n, c, rs, rfl, ho, hd, hb⟩
  exact ⟨A, n, c, rfl, ⟨rs, ho.objs, hd⟩, H.below hb⟩
theorem both_frames {l : List FOp} {s s2 : MSt} {B g y : Nat} {r : RSl} {w W : World} (h : Inv2 l s s2 B g y r w W) (hok : MOk l s) :
    Calls Try.prog 28 #[.pointer (some ⟨g, 0, none⟩)] W (AftF s.frames (Inv2 l s s2 B g y r w)) := by
  have H := h
  obtain ⟨m, h1, -⟩ := h
  refine (mframes_any l s B g m W h1 (by have := hok.few; omega)).mono ?_
  rintro e w' ⟨A, n, c, rs, rfl, ho, -, -, hd, hb⟩
  exact ⟨A, n, c, rfl, ⟨rs, ho, hd⟩, H.below hb⟩
theorem both_sameobs {l : List FOp} {s : MSt} {B g y : Nat} {r : RSl} {w W : World} {A : Option Addr} {n c : Nat} (h : Inv2 l s s B g y r w W) (ho : ObsX s.objs A n W) (hok : MOk l s) :
    Calls Try.prog 26 #[.slice A n c, .slice r.oA r.on r.oc] W (Aft (.bool true) (Inv2 l s s B g y r w)) := by
  have H := h
  obtain ⟨m, h1, h2, h3, -⟩ := h
  obtain ⟨rs, hrs, hd⟩ := ho
  have a := objs_small hrs hd hok.objs
  have b := objs_small h3.rest.objs.objs h3.rest.objsd hok.objs
  refine (sameobjs_true A r.oA n r.on c r.oc rs r.os W hrs h3.rest.objs.objs (hd.trans h3.rest.objsd.symm) a.1 a.2 b.2).mono ?_
  rintro e w' ⟨rfl, hb⟩
  exact ⟨rfl, H.below hb⟩
theorem both_sameframes {l : List FOp} {s : MSt} {B g y : Nat} {r : RSl} {w W : World} {A : Option Addr} {n c : Nat} (h : Inv2 l s s B g y r w W) (ho : FrsX s.frames A n W) (hok : MOk l s) :
    Calls Try.prog 19 #[.slice A n c, .slice r.fA r.fn r.fc] W (Aft (.bool true) (Inv2 l s s B g y r w)) := by
  have H := h
  obtain ⟨m, h1, h2, h3, -⟩ := h
  obtain ⟨rs, hrs, hd⟩ := ho
  refine (sameframes_true hrs ⟨h3.rest.framesn, h3.rest.frames, h3.rest.pics.pixs⟩ hd h3.rest.framesd hok.few (fun f hf => (hok.pics f hf).1)).mono ?_
  rintro e w' ⟨rfl, hb⟩
  exact ⟨rfl, H.below hb⟩
theorem both_same {l : List FOp} {s s2 : MSt} {B g y : Nat} {r : RSl} {w W : World} {f : Nat} (h : Inv2 l s s2 B g y r w W) (hf : f ≤ 100) :
    Calls Try.prog 18 #[errV f, .int .i64 f] W (Aft (.bool true) (Inv2 l s s2 B g y r w)) := by
  have C := same_any f f W hf
  rw [sameB_self] at C
  refine C.mono ?_
  rintro e w' ⟨rfl, hb⟩
  exact ⟨rfl, h.below hb⟩
/-- both are new -/
theorem both_new {w w3 W4 : World} {l : List FOp} {B g y : Nat} {m : MSlots} {A : Option Addr} {n c : Nat} {rs : List (FAt FOp)} (hm : MachW l m0 B g m w3) (hB : w.heap.size ≤ B) (h : Ops w A n rs) (hs : ∀ r ∈ rs, r.n ≤ 100) (hl : datO rs = l) (hb : Below w.heap.size w w3)
    (hy : y = w3.heap.size) (hb4 : Below w3.heap.size w3 W4) (hg : W4.heap[y]? = some (.cells #[.slice A n c, .int .i64 0, .slice none 0 0, .slice none 0 0, .slice none 0 0, .int .i64 0, .int .i64 0, .slice none 0 0] 44)) :
    ∃ r, Inv2 l m0 m0 B g y r w W4 := by
  have hyl : y < W4.heap.size := (Array.getElem?_eq_some_iff.1 hg).1
  have hgl := (Array.getElem?_eq_some_iff.1 hm.box).1
  have hR := ref_new (F := m.O g) (c := c) h hs hl hb (fun b e => ⟨hm.rest.Olt hgl b e, by
    rcases e with e | e | e
    · have := hm.low; omega
    · have := (hm.rest.turns.lt _ e).1; omega
    · have := (hm.rest.frames.lt _ e).1; omega⟩) hy hb4 hg
  exact ⟨_, { m with Y := fun b => b = y }, hm.withY hb4 (by omega) hyl, rfl, hR, bnext hb hb4, hB, by have := hb.size; omega⟩
set_option maxRecDepth 100000 in
set_option maxHeartbeats 4000000 in
theorem lmachines_any (w : World) : Calls Try.prog 14 #[] w (Ret (.bool true) w) := by
  go_enter Try.func14, Try.ntmps14
  go_wp2_with fail
  have hOps : Ops (w.alloc (.cells #[.int .i64 1, .int .i64 0, .int .i64 1, .int .i64 1, .int .i64 0, .int .i64 0, .int .i64 0, .int .i64 0, .slice none 0 0, .int .i64 10, .int .i64 0, .int .i64 7, .int .i64 255, .int .i64 0, .int .i64 0, .int .i64 0, .int .i64 0, .slice none 0 0, .int .i64 11, .int .i64 0, .int .i64 3, .int .i64 0, .int .i64 0, .int .i64 0, .int .i64 0, .int .i64 0, .slice none 0 0, .int .i64 16, .int .i64 0, .int .i64 0, .int .i64 0, .int .i64 0, .int .i64 0, .int .i64 0, .int .i64 0, .slice none 0 0] 51)) (some ⟨w.heap.size, 0, none⟩) 4 (worksL.map bareR) :=
    ops_new (rs := worksL.map bareR) (heap_alloc_new w _) rfl (fun r hr => by
      obtain ⟨o, ho, rfl⟩ := List.mem_map.1 hr
      have : o.pic.p = [] := by
        simp [worksL] at ho
        rcases ho with rfl | rfl | rfl | rfl <;> rfl
      show Pixs _ none 0 o.pic.p
      rw [this]
      exact pixs_none _ _)
  have C := mplay_any (some ⟨w.heap.size, 0, none⟩) 4 4 (worksL.map bareR) 9 _ hOps (fun r hr => by obtain ⟨o, -, rfl⟩ := List.mem_map.1 hr; show 0 ≤ 100; omega) (by omega) (by decide)
  rw [show datO (worksL.map bareR) = worksL from rfl, works_play] at C
  refine C.mono ?_
  rintro e w2 ⟨A', n', c', rs', rfl, hfr, hnc, hcm, hdt, hb⟩
  have hB : Below w.heap.size w w2 := (((Below.refl w.heap.size w).alloc (Nat.le_refl _) _)).trans (hb.mono (by simp))
  clear hb C hOps
  rw [show errV 0 = .nilIface from rfl]
  have CS := same_any 0 0 w2 (by omega)
  rw [show errV 0 = .nilIface from rfl, show sameB 0 0 = true from rfl] at CS
  have HFr := hid hfr
  clear hfr
  go_wp2_with fail
  refine CS.mono ?_
  rintro e w3 ⟨rfl, hb3⟩
  have hfr := HFr.out.belowT hb3
  have hB3 := bnext hB hb3
  clear CS HFr hB hb3
  obtain ⟨h1, h2, h3⟩ := hfr
  obtain ⟨r, rfl⟩ : ∃ r, rs' = [r] := by
    have := congrArg List.length hdt
    unfold frD at this
    rw [List.length_map] at this
    exact List.length_eq_one_iff.1 this
  have hr : r.x = ⟨⟨1, 1, [(7, 255)]⟩, 3⟩ := by
    unfold frD at hdt
    simpa using hdt
  obtain rfl : n' = 1 := h1.symm
  have hp := h3 r (by simp)
  obtain ⟨b, off, rfl, -, hc⟩ := h2.2 (by omega)
  obtain ⟨x, rA, rn, rc⟩ := r
  simp only at hr hp
  subst hr
  obtain rfl : rn = 1 := hp.1.symm
  obtain ⟨pb, po, rfl, -, hpc⟩ := hp.2.2 (by omega)
  have z2 := hc 2 _ rfl
  have z3 := hc 3 _ rfl
  have z0 := hpc 0 _ rfl
  rw [Nat.add_zero] at z0
  simp only at z2 z3
  clear hc hpc hp h1 h2 h3 hdt hnc hcm
  go_wp2_with fail
  go_ret
  exact ⟨rfl, hB3⟩
end Fb
