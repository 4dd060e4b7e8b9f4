/- flickerbooklaw.things: it returns true. Conditions: none. Small words for ObjectsSays: what both sides see, how long lists are. Conditions: those of each lemma. -/
import Derived.Test.YtbddmpbifkgloaaObjsKit
import Derived.Test.YtbddmpbifkgloaaSeenBoth
import Derived.Test.YtbddmpbifkgloaaRObjsA
import Derived.Test.YtbddmpbifkgloaaOpFault
namespace Fb
open Go Go.Proofs Go.RowKit Go.Sort
def thingOp : FOp := ⟨2, 2, 0, 0, 0, 0, ⟨1, 1, [(7, 255)]⟩⟩
theorem dat_one {rs : List (FAt FObj)} {x : FObj} (h : dat rs = [x]) : ∃ r, rs = [r] ∧ r.x = x := by
  match rs, h with
  | [r], h => exact ⟨r, rfl, by simpa [dat] using h⟩
  | [], h => simp [dat] at h
  | _ :: _ :: _, h => simp [dat] at h
/-- the call returns a slice of the one thing -/
def RetThing (w : World) (e : Ending) (w' : World) : Prop := ∃ (A : Option Addr) (c : Nat) (pA : Option Addr) (pn pc : Nat), e = .returned (.tuple #[.slice A 1 c, .nilIface]) ∧
  Objs w' A 1 [⟨freshP 2 ⟨1, 1, [(7, 255)]⟩, pA, pn, pc⟩] ∧ Below w.heap.size w w'
theorem thing_do (w : World) : Calls Try.prog 20 #[.slice none 0 0, .agg #[.int .i64 2, .int .i64 2, .int .i64 0, .int .i64 0, .int .i64 0, .int .i64 0, .int .i64 1, .int .i64 1, .slice (some ⟨w.heap.size, 0, none⟩) 1 1]] (w.alloc (.cells #[.int .i64 7, .int .i64 255] 33)) (RetThing w) := by
  have hp : Pixs (w.alloc (.cells #[.int .i64 7, .int .i64 255] 33)) (some ⟨w.heap.size, 0, none⟩) 1 [(7, 255)] := ⟨rfl, row_new w #[.int .i64 7, .int .i64 255] 33 1 2 rfl⟩
  refine (do_any ⟨thingOp, some ⟨w.heap.size, 0, none⟩, 1, 1⟩ none 0 0 [] _ ⟨rfl, Row.none_ _ _ _, by simp⟩ hp nil_fine (by omega) (show opFault thingOp = 0 by decide)).mono ?_
  rintro e w' ⟨A, n, c, rs, rfl, ho, hd, hb⟩
  obtain ⟨⟨x, pA, pn, pc⟩, rfl, hx⟩ := dat_one (x := freshP 2 ⟨1, 1, [(7, 255)]⟩) hd
  simp only at hx
  subst hx
  obtain rfl : 1 = n := ho.1
  exact ⟨A, c, pA, pn, pc, rfl, ho, Below.trans (by (repeat (first | with_reducible exact Below.refl _ _ | with_reducible refine Below.alloc ?_ (by simp; try omega) _ | with_reducible refine Below.setCell ?_ (by simp; try omega) _ | with_reducible refine below_drewN ?_ _ | with_reducible refine Below.drew ?_))) (hb.mono (by simp))⟩
theorem thing_rise (pA : Option Addr) (pn pc : Nat) : Rise (dat [⟨freshP 2 ⟨1, 1, [(7, 255)]⟩, pA, pn, pc⟩]) := by unfold Rise dat; simp
set_option maxRecDepth 100000 in
set_option maxHeartbeats 1600000 in
theorem things_any (w : World) : Calls Try.prog 7 #[] w (Ret (.bool true) w) := by
  go_enter Try.func7, Try.ntmps7
  go_wp2_with fail
  refine (thing_do w).mono ?_
  rintro e w1 ⟨A, c, pA, pn, pc, rfl, ho, hb1⟩
  have HO := hid ho
  have hpx := ho.2.2 _ (List.mem_singleton.2 rfl)
  simp only at hpx
  have Hpx := hid hpx
  clear ho hpx
  have hget := get_any A 1 c _ 2 w1 HO.out (thing_rise pA pn pc) (by omega)
  rw [show getR 2 [(⟨freshP 2 ⟨1, 1, [(7, 255)]⟩, pA, pn, pc⟩ : FAt FObj)] = some ⟨freshP 2 ⟨1, 1, [(7, 255)]⟩, pA, pn, pc⟩ from rfl] at hget
  unfold getV freshP at hget
  simp only at hget
  have Hget := hid hget
  clear hget
  go_wp2_with fail
  refine Hget.out.mono ?_
  rintro e w2 ⟨rfl, hb2⟩
  have hpx2 := Hpx.out.below hb2
  unfold freshP at hpx2
  simp only at hpx2
  have hpn : 1 = pn := hpx2.1
  subst hpn
  obtain ⟨pb, po, rfl, hps, hpc⟩ := hpx2.open_ (by omega)
  have k0 := (hpc 0 (by simp)).1
  simp only [List.getElem_cons_zero, Nat.zero_mul, Nat.add_zero] at k0
  have hB2 : Below w.heap.size w w2 := bnext hb1 hb2
  have hsame := fun W => same_any 0 0 W (by omega)
  rw [errV_zero] at hsame
  have Hsame := hid hsame
  clear hsame Hget HO Hpx hpx2 hpc hb1 hb2
  go_wp2_with fail
  refine (Hsame.out _).mono ?_
  rintro e w3 ⟨rfl, hb3⟩
  obtain ⟨hc, hf⟩ := bcell hb3
  have hB3 : Below w.heap.size w w3 := bnext (by have hB := hB2; (repeat (first | with_reducible exact hB | with_reducible refine Below.alloc ?_ (by have := hB.size; simp; try omega) _ | with_reducible refine Below.setCell ?_ (by have := hB.size; simp; try omega) _ | with_reducible refine below_drewN ?_ _ | with_reducible refine Below.drew ?_))) hb3
  have hsb : sameB 0 0 = true := by decide
  rw [hsb]
  go_wp2_with fail
  go_ret
  exact ⟨rfl, hB3⟩
end Fb
namespace Fb
open Go Go.Proofs Go.RowKit Go.Sort
theorem seenP_shape2 (l : List FObj) (X Y : Nat) (b : Px) : seenP l X Y b = ⟨(X : Int), (Y : Int), (seenP l X Y b).p⟩ ∧ (seenP l X Y b).p.length = X * Y := by
  have h := seenK_shape l X Y b l.length
  rw [seenK_all (Nat.le_refl _)] at h
  exact h
theorem seen_shaped2 {A : Option Addr} {n c : Nat} {rs : List (FAt FObj)} {X Y N : Nat} {back : Px} {l : List Px} {w : World} (h : Objs w A n rs) (hf : ∀ r ∈ rs, ObjFine r.x) (hn : n ≤ 1000) (hX : 1 ≤ X) (hX8 : X ≤ 8) (hY : 1 ≤ Y) (hY8 : Y ≤ 8) (hb : PxFine back)
    (he : seenP (dat rs) X Y back = ⟨(X : Int), (Y : Int), l⟩) (hl : l.length = N) : Calls Try.prog 25 #[.slice A n c, .int .i64 X, .int .i64 Y, .agg #[.int .i64 back.1, .int .i64 back.2]] w (RetPicN X Y N l w) := by
  have h2 := seen_any A n c rs X Y back w h hf hn hX hX8 hY hY8 hb
  rw [he] at h2
  exact h2.mono fun e w' h => ret_n hl h
theorem rseen_shaped2 {A : Option Addr} {n c : Nat} {rs : List (FAt FObj)} {X Y N : Nat} {back : Px} {l : List Px} {w : World} (h : Objs w A n rs) (hf : ∀ r ∈ rs, ObjFine r.x) (hn : n ≤ 1000) (hX : 1 ≤ X) (hX8 : X ≤ 8) (hY : 1 ≤ Y) (hY8 : Y ≤ 8) (hb : PxFine back)
    (he : seenP (dat rs) X Y back = ⟨(X : Int), (Y : Int), l⟩) (hl : l.length = N) : Calls Try.prog 26 #[.slice A n c, .int .i64 X, .int .i64 Y, .agg #[.int .i64 back.1, .int .i64 back.2]] w (RetPicN X Y N l w) := by
  have h2 := rseen_any A n c rs X Y back w h hf hn hX hX8 hY hY8 hb
  rw [he] at h2
  exact h2.mono fun e w' h => ret_n hl h
theorem same_selfN2 (pw ph : Int) (l : List Px) (N : Nat) (A B : Option Addr) (c d : Nat) (w : World) (ha : Pixs w A N l) (hb : Pixs w B N l) (hn : N ≤ 1000000) :
    Calls Try.prog 24 #[.agg #[.int .i64 pw, .int .i64 ph, .slice A N c], .agg #[.int .i64 pw, .int .i64 ph, .slice B N d]] w (Ret (.bool true) w) := by
  have h := rsame_pic_any ⟨⟨pw, ph, l⟩, A, N, c⟩ ⟨⟨pw, ph, l⟩, B, N, d⟩ w ha hb hn hn
  have e : samePic ⟨pw, ph, l⟩ ⟨pw, ph, l⟩ = true := by unfold samePic; simp
  simp only [e] at h
  exact h
theorem pixB_fine2 {v a : Int} (h : pixB v a = true) : PxFine (v, a) := by unfold pixB at h; unfold PxFine; simp at h ⊢; omega
theorem set_len (o : FObj) : ∀ (l : List FObj), (setP o l).length ≤ l.length + 1
  | [] => by simp [setP]
  | r :: rs => by
    unfold setP
    split
    · have := set_len o rs; simp only [List.length_cons]; omega
    · split <;> simp
theorem objs_lens {w : World} {A : Option Addr} {n : Nat} {rs : List (FAt FObj)} (h : Objs w A n rs) (hl : ∀ x ∈ dat rs, x.pic.p.length ≤ 1000000) : ∀ r ∈ rs, r.n ≤ 1000000 := fun r hr => by
  rw [← (h.2.2 r hr).1]
  exact hl r.x (List.mem_map_of_mem hr)
theorem fine_lens {l : List FObj} (h : ∀ o ∈ l, ObjFine o) : ∀ x ∈ l, x.pic.p.length ≤ 1000000 := fun x hx => by have := pic_len (h x hx).2.2; omega
theorem set_lens {o : FObj} {l : List FObj} (h : ∀ o ∈ l, ObjFine o) (ho : o.pic.p.length ≤ 1000000) : ∀ x ∈ setP o l, x.pic.p.length ≤ 1000000 := fun x hx => by
  rcases set_mem hx with rfl | hx
  · exact ho
  · exact fine_lens h x hx
theorem len_of {w : World} {A : Option Addr} {n : Nat} {rs : List (FAt FObj)} {P : List FObj} (h : Objs w A n rs) (hd : dat rs = P) (hp : P.length ≤ 1000) : n ≤ 1000 := by
  rw [← h.1, ← dat_len, hd]; exact hp
theorem lens_of {w : World} {A : Option Addr} {n : Nat} {rs : List (FAt FObj)} {P : List FObj} (h : Objs w A n rs) (hd : dat rs = P) (hl : ∀ x ∈ P, x.pic.p.length ≤ 1000000) : ∀ r ∈ rs, r.n ≤ 1000000 := objs_lens h (by rw [hd]; exact hl)
theorem do_small (l : List FObj) (x : FOp) : (doP l x).2 ≤ 100 := by
  by_cases h : (doP l x).2 = 0
  · omega
  · rw [(do_err h).1]; show 5 ≤ 100; omega
theorem same_true (a : Nat) (w : World) (ha : a ≤ 100) : Calls Try.prog 10 #[errV a, .int .i64 a] w (Ret (.bool true) w) := by
  have h := same_any a a w ha
  rw [sameB_self] at h
  exact h
/-- a list of one, a thing laid first -/
theorem set_first {o : FObj} {l : List FObj} (h : (setP o l).length = 1) : setP o l = [o] := by
  match l with
  | [] => rfl
  | r :: rs =>
    unfold setP at h ⊢
    split at h
    · rename_i hlt
      have : 1 ≤ (setP o rs).length := by
        match rs with
        | [] => simp [setP]
        | q :: qs => unfold setP; split <;> (try split) <;> simp
      simp only [List.length_cons] at h
      omega
    · rename_i hlt
      rw [if_neg hlt]
      split at h
      · rename_i he
        rw [if_pos he]
        simp at h
        rw [h]
      · simp at h
theorem set_some (o : FObj) (l : List FObj) : 1 ≤ (setP o l).length := by
  match l with
  | [] => simp [setP]
  | q :: qs => unfold setP; split <;> (try split) <;> simp
end Fb
