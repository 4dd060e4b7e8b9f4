/- blend.Plain returns a picture of one pixel, in new memory. Conditions: sides from 1 to 30. What is seen of objects, in plain Lean. Conditions: those of each lemma. What is seen: what isn't shown, what covers all; what an op keeps. Conditions: those of each lemma. What an op does to one object, and that it leaves the others. Conditions: those of each lemma. The machine that plays a book, in plain Lean: one step, and so many. Conditions: those of each lemma. Runs of the machine that plays a book, in plain Lean: more fuel; plain ops one behind the other. Conditions: those of each lemma. What books of plain ops, and books with a loop, play. Plain Lean. Conditions: those of each lemma. What single books play: waits with nothing between, what is hidden or taken away, moved and back, nothing but what is behind all. Plain Lean. Conditions: those of each lemma. A loop in a loop, played. Plain Lean. Conditions: those of each lemma. -/
import Derived.Test.YtgkemeclpidmcaaWalksA
import Derived.Test.YtgkemeclpidmcaaBlend
import Derived.Test.YtgkemeclpidmcaaPlainB
set_option linter.unusedSimpArgs false
set_option linter.unusedVariables false
namespace Fb
open Go Go.Proofs Go.RowKit Go.Sort
theorem pixs_blk {w : World} {g : Nat} {l : List Px} (h : w.heap[g]? = some (.cells (pxCells l).toArray 42 (0, 0))) : Pixs w (some ⟨g, 0, none⟩) l.length l := by
  refine ⟨rfl, pxCells_len l, fun hn => ⟨g, 0, rfl, (Array.getElem?_eq_some_iff.1 h).1, fun j u hu => ?_⟩⟩
  obtain ⟨h3, h4⟩ := List.getElem?_eq_some_iff.1 hu
  simp [World.cell?, h, h3, h4]
def plainP (W H : Nat) (x : Px) : FPic := ⟨(W : Int), (H : Int), List.replicate (W * H) x⟩
set_option maxRecDepth 100000 in
set_option maxHeartbeats 1000000 in
theorem plain_any (W H : Nat) (x : Px) (w : World) (h1 : 1 ≤ W) (h2 : W ≤ 30) (h3 : 1 ≤ H) (h4 : H ≤ 30) :
    Calls Try.prog 73 #[.int .i64 W, .int .i64 H, .agg #[.int .i64 x.1, .int .i64 x.2]] w (RetPic (plainP W H x) w) := by
  have b1 : 1 * 1 ≤ W * H := Nat.mul_le_mul h1 h3
  have b2 : W * H ≤ 30 * 30 := Nat.mul_le_mul h2 h4
  obtain ⟨N, hN⟩ : ∃ N, W * H = N := ⟨_, rfl⟩
  have hNi : (W : Int) * (H : Int) = (N : Int) := by rw [← hN]; simp
  rw [hN] at b1 b2
  have w1 : IntKind.i64.wrap ((W : Int) * (H : Int)) = (N : Int) := by rw [hNi]; exact IntWalk.i64_in _ (by omega)
  have HN := hid hN
  clear hN hNi
  go_enter Try.func73, Try.ntmps73
  go_wp2_with (go_at_call 83; refine (repeat_any x _ _ N _ ?c1 b1 (by omega)).mono ?_)
  case c1 =>
    refine pixs_blk (l := [x]) ?_
    have h := (MapKept.heap_alloc ((w.alloc (.cells #[.int .i64 x.1, .int .i64 x.2] 42)).alloc (.cells #[.int .i64 0, .int .i64 0, .slice none 0 0] 49)) (.cells #[.int .i64 x.1, .int .i64 x.2] 42)).1
    simpa [pxCells] using h
  rintro e w' ⟨g, rfl, hg, hblk, hb⟩
  have hs := hb.size
  simp only [World.size_alloc] at hg hs
  have hB : Below w.heap.size w w' := bnext ((((Below.refl w.heap.size w).alloc (Nat.le_refl _) _).alloc (by simp) _).alloc (by simp; omega) _) hb
  have c0 := kept_cell (b := w.heap.size + 1) (o := 0) (v := .int .i64 0) hb (by simp) (by go_simp)
  have c1 := kept_cell (b := w.heap.size + 1) (o := 1) (v := .int .i64 0) hb (by simp) (by go_simp)
  have c2 := kept_cell (b := w.heap.size + 1) (o := 2) (v := .slice none 0 0) hb (by simp) (by go_simp)
  have f : ∀ o, w'.frozen? ⟨w.heap.size + 1, o, none⟩ = false := fun o => (hb.frozen (p := ⟨w.heap.size + 1, o, none⟩) (by show w.heap.size + 1 < _; simp)).trans (by go_simp)
  have Hblk := hid hblk
  have Hg := hid hg
  clear hblk hg hb
  go_wp2_with fail
  refine bodyPost_ret (v := .agg #[.int .i64 (W : Int), .int .i64 (H : Int), .slice (some ⟨g, 0, none⟩) N N]) (by simp [results, Try.results73, go_sem, c0, c1, c2, f]) rfl ?_
  have hl : (List.replicate (W * H) x).length = N := by rw [List.length_replicate, HN.out]
  have hP : (plainP W H x).p = List.replicate N x := by show List.replicate (W * H) x = _; rw [HN.out]
  refine ⟨some ⟨g, 0, none⟩, N, ?_, ?_, ?_, ?_⟩
  · show _ = Ending.returned (.agg #[.int .i64 (W : Int), .int .i64 (H : Int), .slice (some ⟨g, 0, none⟩) (plainP W H x).p.length N])
    rw [hP, List.length_replicate]
  · have hg := Hg.out
    rw [hP]
    refine pixs_blk ?_
    have hne : g ≠ w.heap.size + 1 := by omega
    rw [Below.heap_setCell _ _ _ _ hne, Below.heap_setCell _ _ _ _ hne, Below.heap_setCell _ _ _ _ hne]
    exact Hblk.out
  · intro a e; injection e with e; subst e; show w.heap.size ≤ g; have := Hg.out; omega
  · exact ((hB.setCell (by simp) _).setCell (by simp) _).setCell (by simp) _
/-- the same, its pixels' address written out -/
def RetPlain (W H : Int) (x : Px) (w : World) (e : Ending) (w' : World) : Prop := ∃ b off c N : Nat, e = .returned (.agg #[.int .i64 W, .int .i64 H, .slice (some ⟨b, off, none⟩) N c]) ∧ (N : Int) = W * H ∧ 1 ≤ N ∧ N ≤ 64 ∧ w.heap.size ≤ b ∧ b < w'.heap.size ∧ Pixs w' (some ⟨b, off, none⟩) N (List.replicate N x) ∧ Below w.heap.size w w'
theorem plain_int (W H : Int) (x : Px) (w : World) (h1 : 1 ≤ W) (h2 : W ≤ 8) (h3 : 1 ≤ H) (h4 : H ≤ 8) :
    Calls Try.prog 73 #[.int .i64 W, .int .i64 H, .agg #[.int .i64 x.1, .int .i64 x.2]] w (RetPlain W H x w) := by
  obtain ⟨W, rfl⟩ : ∃ k : Nat, W = (k : Int) := ⟨W.toNat, by omega⟩
  obtain ⟨H, rfl⟩ : ∃ k : Nat, H = (k : Int) := ⟨H.toNat, by omega⟩
  have b1 : 1 * 1 ≤ W * H := Nat.mul_le_mul (by omega) (by omega)
  have b2 : W * H ≤ 8 * 8 := Nat.mul_le_mul (by omega) (by omega)
  refine (plain_any W H x w (by omega) (by omega) (by omega) (by omega)).mono ?_
  rintro e w' ⟨A, c, rfl, hp, hn, hb⟩
  have hl : (plainP W H x).p.length = W * H := by show (List.replicate (W * H) x).length = _; rw [List.length_replicate]
  rw [hl] at hp ⊢
  obtain ⟨b, off, rfl, hbl, -⟩ := hp.open_ (by omega)
  exact ⟨b, off, c, W * H, rfl, by simp, by omega, by omega, hn _ rfl, hbl, hp, hb⟩
end Fb
namespace Fb
open Go Go.Proofs Go.RowKit Go.Sort
def seenP (l : List FObj) (X Y : Nat) (back : Px) : FPic := l.foldl layP (plainP X Y back)
theorem plain_fine {X Y : Nat} {b : Px} (h1 : 1 ≤ X) (h2 : X ≤ 8) (h3 : 1 ≤ Y) (h4 : Y ≤ 8) (hb : PxFine b) : PicFine (plainP X Y b) := by
  unfold plainP PicFine
  simp only
  refine ⟨by omega, by omega, by omega, by omega, by rw [List.length_replicate]; exact Int.natCast_mul X Y, fun q hq => ?_⟩
  rw [List.eq_of_mem_replicate hq]
  exact hb
theorem foldl_lay {p : FPic} : ∀ (l : List FObj), (l.foldl layP p).w = p.w ∧ (l.foldl layP p).h = p.h ∧ (l.foldl layP p).p.length = p.p.length
  | [] => ⟨rfl, rfl, rfl⟩
  | o :: l => by
    have := foldl_lay (p := layP p o) l
    rw [List.foldl_cons]
    refine ⟨this.1.trans rfl, this.2.1.trans rfl, this.2.2.trans ?_⟩
    unfold layP
    simp [updL_len]
theorem foldl_fine {p : FPic} (hp : PicFine p) : ∀ (l : List FObj), (∀ o ∈ l, ObjFine o) → PicFine (l.foldl layP p)
  | [], _ => hp
  | o :: l, h => by
    rw [List.foldl_cons]
    exact foldl_fine (lay_fine hp (h o (by simp)).2.2) l (fun q hq => h q (by simp [hq]))
/-- the picture after k objects -/
def seenK (l : List FObj) (X Y : Nat) (back : Px) (k : Nat) : FPic := seenP (l.take k) X Y back
theorem seenK_zero (l : List FObj) (X Y : Nat) (back : Px) : seenK l X Y back 0 = plainP X Y back := rfl
theorem seenK_succ {l : List FObj} {X Y : Nat} {back : Px} {k : Nat} (h : k < l.length) : seenK l X Y back (k + 1) = layP (seenK l X Y back k) l[k] := by
  unfold seenK seenP
  rw [List.take_succ_eq_append_getElem h, List.foldl_append]
  rfl
theorem seenK_all {l : List FObj} {X Y : Nat} {back : Px} {k : Nat} (h : l.length ≤ k) : seenK l X Y back k = seenP l X Y back := by unfold seenK; rw [List.take_of_length_le h]
theorem seenK_shape (l : List FObj) (X Y : Nat) (back : Px) (k : Nat) : seenK l X Y back k = ⟨(X : Int), (Y : Int), (seenK l X Y back k).p⟩ ∧ (seenK l X Y back k).p.length = X * Y := by
  obtain ⟨h1, h2, h3⟩ := foldl_lay (p := plainP X Y back) (l.take k)
  have e : (seenK l X Y back k) = ⟨(seenK l X Y back k).w, (seenK l X Y back k).h, (seenK l X Y back k).p⟩ := rfl
  refine ⟨?_, ?_⟩
  · rw [e]
    have a1 : (seenK l X Y back k).w = (X : Int) := h1
    have a2 : (seenK l X Y back k).h = (Y : Int) := h2
    rw [a1, a2]
  · have : (seenK l X Y back k).p.length = (plainP X Y back).p.length := h3
    rw [this]
    unfold plainP
    simp
theorem seenK_fine {l : List FObj} {X Y : Nat} {back : Px} (k : Nat) (h1 : 1 ≤ X) (h2 : X ≤ 8) (h3 : 1 ≤ Y) (h4 : Y ≤ 8) (hb : PxFine back) (hf : ∀ o ∈ l, ObjFine o) : PicFine (seenK l X Y back k) :=
  foldl_fine (plain_fine h1 h2 h3 h4 hb) _ (fun o ho => hf o (List.mem_of_mem_take ho))
end Fb
namespace Fb
theorem lay_hid0 {p : FPic} {o : FObj} (h : o.shown = false) : layP p o = p := by
  unfold layP
  rw [h]
  simp only [Bool.false_and]
  rw [updL_none (fun _ _ => rfl)]
theorem drop_above {i : Int} : ∀ {l : List FObj} (_ : ∀ r ∈ l, i < r.id), dropP i l = l := fun {l} h => by
  unfold dropP
  rw [List.filter_eq_self]
  intro r hr
  have := h r hr
  simp
  omega
theorem drop_none {i : Int} {l : List FObj} (h : getP i l = none) : dropP i l = l := by
  unfold dropP
  rw [List.filter_eq_self]
  intro r hr
  simpa using get_no h r hr
theorem fold_hidden {o : FObj} (hs : o.shown = false) : ∀ {l : List FObj} (_ : Rise l) (p : FPic), (setP o l).foldl layP p = (dropP o.id l).foldl layP p
  | [], _, p => by
    unfold setP dropP
    simp only [List.foldl_cons, List.foldl_nil, List.filter_nil]
    exact lay_hid0 hs
  | r :: rs, h, p => by
    have h2 := h
    unfold Rise at h2
    rw [List.pairwise_cons] at h2
    unfold setP
    by_cases h1 : r.id < o.id
    · have hd : dropP o.id (r :: rs) = r :: dropP o.id rs := by
        unfold dropP
        rw [List.filter_cons, if_pos (by simp; omega)]
      rw [if_pos h1, hd, List.foldl_cons, List.foldl_cons, fold_hidden hs h2.2]
    · rw [if_neg h1]
      by_cases he : r.id = o.id
      · have hd : dropP o.id (r :: rs) = rs := by
          have := drop_above (i := o.id) (l := rs) (fun q hq => by have := h2.1 q hq; omega)
          unfold dropP at this ⊢
          rw [List.filter_cons, if_neg (by simp; omega), this]
        rw [if_pos he, hd, List.foldl_cons, lay_hid0 hs]
      · have hd : dropP o.id (r :: rs) = r :: rs := drop_above (fun q hq => by
          rcases List.mem_cons.1 hq with rfl | hq
          · omega
          · have := h2.1 q hq; omega)
        rw [if_neg he, hd, List.foldl_cons, lay_hid0 hs]
theorem seen_hidden {o : FObj} {l : List FObj} (hs : o.shown = false) (hr : Rise l) (X Y : Nat) (b : Px) : seenP (setP o l) X Y b = seenP (dropP o.id l) X Y b := fold_hidden hs hr _
theorem set_last {o : FObj} : ∀ {l : List FObj} (_ : Rise l) (_ : ∀ r ∈ l, r.id ≤ o.id), setP o l = dropP o.id l ++ [o]
  | [], _, _ => rfl
  | r :: rs, h, hm => by
    have h2 := h
    unfold Rise at h2
    rw [List.pairwise_cons] at h2
    have h0 := hm r (by simp)
    unfold setP
    by_cases h1 : r.id < o.id
    · have hd : dropP o.id (r :: rs) = r :: dropP o.id rs := by
        unfold dropP
        rw [List.filter_cons, if_pos (by simp; omega)]
      rw [if_pos h1, hd, set_last h2.2 (fun q hq => hm q (by simp [hq])), List.cons_append]
    · have hn : rs = [] := by
        rw [List.eq_nil_iff_forall_not_mem]
        intro q hq
        have := h2.1 q hq
        have := hm q (by simp [hq])
        omega
      subst hn
      have hd : dropP o.id [r] = [] := by
        unfold dropP
        rw [List.filter_cons, if_neg (by simp; omega), List.filter_nil]
      rw [if_neg h1, if_pos (by omega), hd, List.nil_append]
theorem lay_full {q : FPic} {X Y : Nat} {v : Int} {i : Int} (hq : PicFine q) (hw : q.w = (X : Int)) (hh : q.h = (Y : Int)) (hX : 1 ≤ X) (hX8 : X ≤ 8) (hY : 1 ≤ Y) (hY8 : Y ≤ 8) (h0 : 0 ≤ v) (h1 : v ≤ 255) :
    layP q (freshP i (plainP X Y (v, 255))) = plainP X Y (v, 255) := by
  obtain ⟨-, -, -, -, hl, hpx⟩ := hq
  obtain ⟨qw, qh, ql⟩ := q
  simp only at hw hh hl hpx
  subst hw hh
  have hln : ql.length = X * Y := by
    have : ((X * Y : Nat) : Int) = (X : Int) * (Y : Int) := Int.natCast_mul X Y
    omega
  unfold layP freshP plainP
  simp only [Int.toNat_natCast, Bool.true_and, FPic.mk.injEq, true_and]
  apply List.ext_getElem
  · rw [updL_len, List.length_replicate, hln]
  · intro k hk1 hk2
    rw [updL_len] at hk1
    rw [updL_at hk1, List.getElem_replicate]
    obtain ⟨hj, hi⟩ := kdiv (w := X) (h := Y) (by omega) (by rw [← hln]; exact hk1)
    have c1 : ∀ j i : Nat, j < Y → i < X → onB ⟨0, 0, 20, 20⟩ j i = true := fun j i _ _ => by unfold onB hasB; simp; omega
    have c2 : ∀ j i : Nat, j < Y → i < X → onB ⟨0, 0, (X : Int), (Y : Int)⟩ j i = true := fun j i _ _ => by unfold onB hasB; simp; omega
    rw [c1 _ _ hj hi, c2 _ _ hj hi, if_pos (by rfl)]
    have hs : srcP ⟨(X : Int), (Y : Int), List.replicate (X * Y) (v, 255)⟩ 0 0 (k / X) (k % X) = (v, 255) := by
      unfold srcP
      simp only
      have e : (((k / X : Nat) : Int) - 0) * (X : Int) + ((k % X : Nat) : Int) - 0 = ((k / X * X + k % X : Nat) : Int) := by simp
      rw [e, Int.toNat_natCast, List.getD_eq_getElem?_getD, List.getElem?_replicate, if_pos (at_lt' hj hi)]
      rfl
    rw [hs]
    refine overP_all _ h0 h1 ?_
    have hb : k / X * X + k % X < ql.length := by rw [hln]; exact at_lt' hj hi
    rw [List.getD_eq_getElem?_getD, List.getElem?_eq_getElem hb]
    exact hpx _ (List.getElem_mem hb)
where
  at_lt' {X Y j i : Nat} (hj : j < Y) (hi : i < X) : j * X + i < X * Y := at_lt hj hi
theorem seen_front {l : List FObj} {X Y : Nat} {v : Int} {b : Px} (hf : ObjsFine l) (hX : 1 ≤ X) (hX8 : X ≤ 8) (hY : 1 ≤ Y) (hY8 : Y ≤ 8) (h0 : 0 ≤ v) (h1 : v ≤ 255) (hb : PxFine b) :
    seenP (setP (freshP 6 (plainP X Y (v, 255))) l) X Y b = plainP X Y (v, 255) := by
  unfold seenP
  rw [set_last hf.1 (fun r hr => (hf.2 r hr).1.2.1), List.foldl_append, List.foldl_cons, List.foldl_nil]
  have hp := foldl_fine (plain_fine hX hX8 hY hY8 hb) (dropP (freshP 6 (plainP X Y (v, 255))).id l) (fun o ho => hf.2 o (drop_mem ho).1)
  obtain ⟨e1, e2, -⟩ := foldl_lay (p := plainP X Y b) (dropP (freshP 6 (plainP X Y (v, 255))).id l)
  exact lay_full hp e1 e2 hX hX8 hY hY8 h0 h1
theorem fresh_fine {i : Int} {p : FPic} (hi : 1 ≤ i) (hi6 : i ≤ 6) (hp : PicFine p) : ObjFine (freshP i p) := by
  refine ⟨⟨hi, hi6, ?_, ?_, ?_, ?_⟩, rectFault_zero ?_, hp⟩
  all_goals (unfold freshP; simp)
/-! ## what an op leaves -/
theorem turn_fine {o : FObj} {x : FOp} (ho : ObjFine o) (hx : opFault x = 0) (hk : x.kind = 3 ∨ x.kind = 4 ∨ x.kind = 5 ∨ x.kind = 6 ∨ x.kind = 8 ∨ x.kind = 9) : ObjFine (turnP o x) := by
  obtain ⟨-, -, -, hb, hp⟩ := opFault_fine hx
  obtain ⟨⟨i1, i2, x1, x2, y1, y2⟩, hc, hpf⟩ := ho
  unfold boundB inB at hb
  unfold turnP
  rcases hk with hk | hk | hk | hk | hk | hk
  · rw [if_pos hk]
    rw [if_neg (by omega), if_pos (by omega)] at hb
    simp at hb
    exact ⟨⟨i1, i2, by simp only; omega, by simp only; omega, by simp only; omega, by simp only; omega⟩, hc, hpf⟩
  · rw [if_neg (by omega), if_pos hk]
    rw [if_neg (by omega), if_neg (by omega), if_pos hk] at hb
    exact ⟨⟨i1, i2, x1, x2, y1, y2⟩, by simpa using hb, hpf⟩
  · rw [if_neg (by omega), if_neg (by omega), if_pos hk]
    exact ⟨⟨i1, i2, x1, x2, y1, y2⟩, hc, hpf⟩
  · rw [if_neg (by omega), if_neg (by omega), if_neg (by omega), if_pos hk]
    rw [if_neg (by omega), if_neg (by omega), if_neg (by omega), if_neg (by omega), if_pos hk] at hb
    simp at hb
    exact ⟨⟨by simp only; omega, by simp only; omega, x1, x2, y1, y2⟩, hc, hpf⟩
  · rw [if_neg (by omega), if_neg (by omega), if_neg (by omega), if_neg (by omega), if_pos hk]
    exact ⟨⟨i1, i2, x1, x2, y1, y2⟩, hc, change_fine (fun a b _ _ => addP_fine a b) hpf (picFault_fine.1 (hp (by unfold hasPic; simp; omega)))⟩
  · rw [if_neg (by omega), if_neg (by omega), if_neg (by omega), if_neg (by omega), if_neg (by omega)]
    exact ⟨⟨i1, i2, x1, x2, y1, y2⟩, hc, change_fine (fun a b _ hb => hb) hpf (picFault_fine.1 (hp (by unfold hasPic; simp; omega)))⟩
theorem turn_id {o : FObj} {x : FOp} : (turnP o x).id = if x.kind = 6 then x.a else o.id := by
  unfold turnP
  by_cases h6 : x.kind = 6
  · rw [if_pos h6, if_neg (by omega), if_neg (by omega), if_neg (by omega), if_pos h6]
  · rw [if_neg h6]
    repeat' split
    all_goals (first | rfl | omega)
end Fb
namespace Fb
theorem do_err {l : List FObj} {x : FOp} (h : (doP l x).2 ≠ 0) : doP l x = ([], 5) ∧ getP x.id l = none := by
  unfold doP at h ⊢
  by_cases hk : x.kind = 2
  · rw [if_pos hk] at h; exact absurd rfl h
  · rw [if_neg hk] at h ⊢
    cases hg : getP x.id l with
    | none => exact ⟨rfl, rfl⟩
    | some o =>
      rw [hg] at h
      simp only at h
      split at h <;> exact absurd rfl h
theorem do_kinds {l : List FObj} {x : FOp} (hf : ObjsFine l) (ho : opFault x = 0) (h : (doP l x).2 = 0) :
    (x.kind = 2 ∧ doP l x = (setP (freshP x.id x.pic) l, 0) ∧ hasId x.kind = true) ∨ (∃ o, getP x.id l = some o ∧ x.kind = 7 ∧ doP l x = (dropP x.id l, 0)) ∨
      ∃ o, getP x.id l = some o ∧ (x.kind = 3 ∨ x.kind = 4 ∨ x.kind = 5 ∨ x.kind = 6 ∨ x.kind = 8 ∨ x.kind = 9) ∧ doP l x = (setP (turnP o x) l, 0) := by
  obtain ⟨⟨k1, k2⟩, hs, hid', -, -⟩ := opFault_fine ho
  by_cases hk : x.kind = 2
  · exact Or.inl ⟨hk, by unfold doP; rw [if_pos hk], by rw [hk]; rfl⟩
  · refine Or.inr ?_
    unfold doP at h ⊢
    rw [if_neg hk] at h ⊢
    cases hg : getP x.id l with
    | none => rw [hg] at h; simp at h
    | some o =>
      simp only
      by_cases h7 : x.kind = 7
      · exact Or.inl ⟨o, rfl, h7, by rw [if_pos h7]⟩
      · refine Or.inr ⟨o, rfl, ?_, by rw [if_neg h7]⟩
        obtain ⟨hm, he⟩ := get_mem hg
        have h1 := (hf.2 o hm).1.1
        cases hh : hasId x.kind with
        | false =>
          have hz : x.id = 0 := by
            unfold shapeB at hs
            rw [hh] at hs
            simp at hs
            exact hs.1
          omega
        | true => unfold hasId at hh; simp at hh; omega
theorem do_fine {l : List FObj} {x : FOp} (hf : ObjsFine l) (ho : opFault x = 0) : ObjsFine (doP l x).1 := by
  by_cases h : (doP l x).2 = 0
  · obtain ⟨-, -, hi, -, hp⟩ := opFault_fine ho
    rcases do_kinds hf ho h with ⟨hk, e, hh⟩ | ⟨o, hg, hk, e⟩ | ⟨o, hg, hk, e⟩
    · rw [e]
      have := hi hh
      exact set_fine hf (fresh_fine (by omega) (by omega) (picFault_fine.1 (hp (by rw [hk]; rfl))))
    · rw [e]; exact drop_fine hf
    · rw [e]; exact set_fine hf (turn_fine (hf.2 o (get_mem hg).1) ho hk)
  · rw [(do_err h).1]; exact nil_fine
theorem do_other {l : List FObj} {x : FOp} {id : Int} (hf : ObjsFine l) (ho : opFault x = 0) (h : (doP l x).2 = 0) (h1 : id ≠ x.id) (h2 : x.kind = 6 → id ≠ x.a) : getP id (doP l x).1 = getP id l := by
  rcases do_kinds hf ho h with ⟨hk, e, hh⟩ | ⟨o, hg, hk, e⟩ | ⟨o, hg, hk, e⟩
  · rw [e]; simp only
    rw [get_set, if_neg (show ¬ (freshP x.id x.pic).id = id from fun h => h1 h.symm)]
  · rw [e]; simp only
    exact get_drop (fun h => h1 h.symm)
  · rw [e]; simp only
    rw [get_set, turn_id]
    have he := (get_mem hg).2
    by_cases h6 : x.kind = 6
    · have := h2 h6
      rw [if_pos h6, if_neg (by omega)]
    · rw [if_neg h6, if_neg (by omega)]
/-! ## a copy -/
def copyOp (i j : Int) : FOp := ⟨6, i, j, 0, 0, 0, ⟨0, 0, []⟩⟩
theorem copy_ok {i j : Int} (hi : 1 ≤ i ∧ i ≤ 6) (hj : 1 ≤ j ∧ j ≤ 6) : opFault (copyOp i j) = 0 := by
  refine opFault_none (show 1 ≤ (6 : Int) ∧ (6 : Int) ≤ 16 by decide) ?_ ?_ rfl
  · rfl
  · unfold copyOp boundB inB hasId
    simp
    omega
theorem copy_do {l : List FObj} {o : FObj} {i j : Int} (h : getP i l = some o) : doP l (copyOp i j) = (setP { o with id := j } l, 0) := by
  unfold doP copyOp
  simp only [if_neg (show ¬ (6 : Int) = 2 by decide), if_neg (show ¬ (6 : Int) = 7 by decide), h]
  rfl
theorem copy_none {l : List FObj} {i j : Int} (h : getP i l = none) : doP l (copyOp i j) = ([], 5) := by
  unfold doP copyOp
  simp only [if_neg (show ¬ (6 : Int) = 2 by decide), h]
/-- an op of an object that is there does well -/
theorem do_well {l : List FObj} {x : FOp} {o : FObj} (h : getP x.id l = some o) : (doP l x).2 = 0 := by
  by_cases he : (doP l x).2 = 0
  · exact he
  · have := (do_err he).2
    rw [h] at this
    cases this
end Fb
namespace Fb
theorem inM_iff {x lo hi : Int} : inB x lo hi = true ↔ lo ≤ x ∧ x ≤ hi := by unfold inB; simp
structure MSt where
  at_ : Nat
  turns : List (Nat × Nat)
  objs : List FObj
  saved : List FObj
  back : Px
  frames : List FFrame
def m0 : MSt := ⟨0, [], [], [], (0, 0), []⟩
def headW (l : List FOp) : Nat := (opAt l 0).a.toNat
def headH (l : List FOp) : Nat := (opAt l 0).b.toNat
/-- the next turn of a loop, or none -/
def turnM (s : MSt) : MSt :=
  match s.turns.getLast? with
  | none => { s with at_ := s.at_ + 1 }
  | some t => if t.2 ≤ 1 then { s with at_ := s.at_ + 1, turns := s.turns.dropLast } else { s with at_ := t.1 + 1, turns := s.turns.dropLast ++ [(t.1, t.2 - 1)] }
def stepO (l : List FOp) (s : MSt) (o : FOp) : MSt × Nat :=
  if o.kind = 16 then (s, 0)
  else if o.kind = 1 then ({ s with at_ := s.at_ + 1 }, 0)
  else if o.kind = 10 then ({ s with at_ := s.at_ + 1, back := (o.a, o.b) }, 0)
  else if o.kind = 11 then (if s.frames.length = 40 then (s, 7) else ({ s with at_ := s.at_ + 1, frames := s.frames ++ [⟨seenP s.objs (headW l) (headH l) s.back, o.a⟩] }, 0))
  else if o.kind = 12 then (if o.a = 0 then ({ s with at_ := endP l s.at_ + 1 }, 0) else ({ s with at_ := s.at_ + 1, turns := s.turns ++ [(s.at_, o.a.toNat)] }, 0))
  else if o.kind = 13 then (turnM s, 0)
  else if o.kind = 14 then ({ s with at_ := s.at_ + 1, saved := s.objs }, 0)
  else if o.kind = 15 then ({ s with at_ := s.at_ + 1, objs := s.saved }, 0)
  else if (doP s.objs o).2 ≠ 0 then (s, (doP s.objs o).2) else ({ s with at_ := s.at_ + 1, objs := (doP s.objs o).1 }, 0)
def stepP (l : List FOp) (s : MSt) : MSt × Nat := stepO l s (opAt l s.at_)
/-- the machine is as it may be -/
structure MOk (l : List FOp) (s : MSt) : Prop where
  at_ : s.at_ < l.length
  open_ : s.turns.map Prod.fst = openAt l s.at_
  left : ∀ t ∈ s.turns, 1 ≤ t.2 ∧ t.2 ≤ 9
  objs : ObjsFine s.objs
  saved : ObjsFine s.saved
  back : PxFine s.back
  few : s.frames.length ≤ 40
  pics : ∀ f ∈ s.frames, PicFine f.pic ∧ f.pic.w = (headW l : Int) ∧ f.pic.h = (headH l : Int) ∧ 0 ≤ f.delay ∧ f.delay ≤ 99
theorem px_zero : PxFine (0, 0) := ⟨by decide, by decide, by decide, by decide⟩
theorem objs_nil : ObjsFine [] := ⟨List.Pairwise.nil, fun o h => by simp at h⟩
theorem m0_ok {l : List FOp} (hf : BookFine l) : MOk l m0 :=
  ⟨by have := hf.two; show 0 < _; omega, rfl, fun t h => by simp [m0] at h, objs_nil, objs_nil, px_zero, by simp [m0], fun f h => by simp [m0] at h⟩
/-- the head's sides -/
theorem head_sides {l : List FOp} (hf : BookFine l) : 1 ≤ headW l ∧ headW l ≤ 8 ∧ 1 ≤ headH l ∧ headH l ≤ 8 ∧ (headW l : Int) = (opAt l 0).a ∧ (headH l : Int) = (opAt l 0).b := by
  have h := hf.ops 0 (by have := hf.two; omega)
  have hk := hf.head
  obtain ⟨-, -, -, hb, -⟩ := opFault_fine h
  unfold boundB at hb
  rw [if_pos hk] at hb
  simp only [Bool.and_eq_true, inM_iff] at hb
  unfold headW headH
  omega
theorem back_bd {o : FOp} (h : opFault o = 0) (hk : o.kind = 10) : PxFine (o.a, o.b) := by
  obtain ⟨-, -, -, hb, -⟩ := opFault_fine h
  unfold boundB at hb
  simp [hk, inM_iff] at hb
  exact ⟨hb.1.1, hb.1.2, hb.2.1, hb.2.2⟩
theorem wait_bd {o : FOp} (h : opFault o = 0) (hk : o.kind = 11) : 0 ≤ o.a ∧ o.a ≤ 99 := by
  obtain ⟨-, -, -, hb, -⟩ := opFault_fine h
  unfold boundB at hb
  simpa [hk, inM_iff] using hb
theorem loop_bd {o : FOp} (h : opFault o = 0) (hk : o.kind = 12) : 0 ≤ o.a ∧ o.a ≤ 9 := by
  obtain ⟨-, -, -, hb, -⟩ := opFault_fine h
  unfold boundB at hb
  simpa [hk, inM_iff] using hb
theorem openStep_same {s : List Nat} {i : Nat} {k : Int} (h1 : k ≠ 12) (h2 : k ≠ 13) : openStep s i k = s := by unfold openStep; rw [if_neg h1, if_neg h2]
theorem not_last {l : List FOp} (hf : BookFine l) {p : Nat} (hp : p < l.length) (hk : (opAt l p).kind ≠ 16) : p + 1 < l.length := by
  by_cases h : p + 1 < l.length
  · exact h
  · exact absurd (by rw [show p = l.length - 1 by omega]; exact hf.last) hk
theorem seen_ok {l : List FOp} (hf : BookFine l) {s : MSt} (h : MOk l s) : PicFine (seenP s.objs (headW l) (headH l) s.back) ∧ (seenP s.objs (headW l) (headH l) s.back).w = (headW l : Int) ∧ (seenP s.objs (headW l) (headH l) s.back).h = (headH l : Int) ∧ (seenP s.objs (headW l) (headH l) s.back).p.length = headW l * headH l := by
  obtain ⟨h1, h2, h3, h4, -, -⟩ := head_sides hf
  have e := seenK_all (l := s.objs) (X := headW l) (Y := headH l) (back := s.back) (k := s.objs.length) (Nat.le_refl _)
  have f := seenK_fine (l := s.objs) s.objs.length h1 h2 h3 h4 h.back h.objs.2
  have g := seenK_shape s.objs (headW l) (headH l) s.back s.objs.length
  rw [e] at f g
  refine ⟨f, ?_, ?_, g.2⟩
  · rw [g.1]
  · rw [g.1]
/-- what a Next finds -/
theorem turn_last {l : List FOp} (hf : BookFine l) {s : MSt} (h : MOk l s) (hk : (opAt l s.at_).kind = 13) : ∃ r i n, s.turns = r ++ [(i, n)] ∧ openAt l s.at_ = r.map Prod.fst ++ [i] ∧ i < s.at_ ∧ openAt l (i + 1) = r.map Prod.fst ++ [i] ∧ 1 ≤ n ∧ n ≤ 9 := by
  have hne := hf.next _ h.at_ hk
  rw [← h.open_] at hne
  have hne2 : s.turns ≠ [] := fun e => hne (by rw [e]; rfl)
  obtain ⟨r, t, hr⟩ : ∃ r t, s.turns = r ++ [t] := ⟨_, _, (List.dropLast_concat_getLast hne2).symm⟩
  obtain ⟨i, n⟩ := t
  have ho := h.open_
  rw [hr, List.map_append] at ho
  have ho2 : openAt l s.at_ = r.map Prod.fst ++ i :: [] := ho.symm
  have hm := openAt_lt l s.at_ i (by rw [ho2]; simp)
  have hl := h.left (i, n) (by rw [hr]; simp)
  have hu := openAt_under l s.at_ _ _ _ ho2
  exact ⟨r, i, n, hr, ho2, hm.1, by rw [openAt_succ, hm.2, hu]; rfl, hl.1, hl.2⟩
theorem turnM_eq {s : MSt} {r : List (Nat × Nat)} {i n : Nat} (h : s.turns = r ++ [(i, n)]) : turnM s = if n ≤ 1 then { s with at_ := s.at_ + 1, turns := r } else { s with at_ := i + 1, turns := r ++ [(i, n - 1)] } := by
  unfold turnM
  rw [h]
  simp
/-- one step keeps the machine as it may be -/
theorem step_ok {l : List FOp} (hf : BookFine l) {s : MSt} (h : MOk l s) : MOk l (stepP l s).1 := by
  have hof := hf.ops _ h.at_
  have hnl := not_last hf h.at_
  have hsucc := openAt_succ l s.at_
  unfold stepP
  obtain ⟨o, ho⟩ : ∃ o, opAt l s.at_ = o := ⟨_, rfl⟩
  have hturn := turn_last hf h
  have hend : o.kind = 12 → EndAt l s.at_ (endP l s.at_) := fun e => endP_spec hf h.at_ (by rw [ho]; exact e)
  rw [ho] at hof hnl hsucc hturn ⊢
  unfold stepO
  by_cases k16 : o.kind = 16
  · rw [if_pos k16]; exact h
  rw [if_neg k16]
  have hn1 := hnl k16
  have same : o.kind ≠ 12 → o.kind ≠ 13 → s.turns.map Prod.fst = openAt l (s.at_ + 1) := fun a b => by rw [hsucc, openStep_same a b]; exact h.open_
  by_cases k1 : o.kind = 1
  · rw [if_pos k1]
    exact ⟨hn1, same (by omega) (by omega), h.left, h.objs, h.saved, h.back, h.few, h.pics⟩
  rw [if_neg k1]
  by_cases k10 : o.kind = 10
  · rw [if_pos k10]
    exact ⟨hn1, same (by omega) (by omega), h.left, h.objs, h.saved, back_bd hof k10, h.few, h.pics⟩
  rw [if_neg k10]
  by_cases k11 : o.kind = 11
  · rw [if_pos k11]
    by_cases hfu : s.frames.length = 40
    · rw [if_pos hfu]; exact h
    · rw [if_neg hfu]
      have hs := seen_ok hf h
      have hw := wait_bd hof k11
      refine ⟨hn1, same (by omega) (by omega), h.left, h.objs, h.saved, h.back, ?_, fun f hfm => ?_⟩
      · have := h.few; show (s.frames ++ [_]).length ≤ 40; simp; omega
      · rcases List.mem_append.1 hfm with hfm | hfm
        · exact h.pics f hfm
        · simp at hfm; subst hfm; exact ⟨hs.1, hs.2.1, hs.2.2.1, hw.1, hw.2⟩
  rw [if_neg k11]
  by_cases k12 : o.kind = 12
  · rw [if_pos k12]
    by_cases ha : o.a = 0
    · rw [if_pos ha]
      have hE := hend k12
      exact ⟨hE.len, h.open_.trans hE.shut.symm, h.left, h.objs, h.saved, h.back, h.few, h.pics⟩
    · rw [if_neg ha]
      have hb := loop_bd hof k12
      refine ⟨hn1, ?_, fun t ht => ?_, h.objs, h.saved, h.back, h.few, h.pics⟩
      · show (s.turns ++ [_]).map Prod.fst = _
        rw [hsucc, k12, List.map_append, h.open_]; rfl
      · rcases List.mem_append.1 ht with ht | ht
        · exact h.left t ht
        · simp at ht; subst ht; show 1 ≤ o.a.toNat ∧ o.a.toNat ≤ 9; omega
  rw [if_neg k12]
  by_cases k13 : o.kind = 13
  · rw [if_pos k13]
    obtain ⟨r, i, n, hr, ho2, hi, ho3, hn, hn9⟩ := hturn k13
    show MOk l (turnM s)
    rw [turnM_eq hr]
    have hll := h.left
    rw [hr] at hll
    by_cases hn2 : n ≤ 1
    · rw [if_pos hn2]
      refine ⟨hn1, ?_, fun t ht => hll t (by simp [ht]), h.objs, h.saved, h.back, h.few, h.pics⟩
      show r.map Prod.fst = openAt l (s.at_ + 1)
      rw [hsucc, ho2, k13]
      unfold openStep
      rw [if_neg (by decide), if_pos rfl, List.dropLast_concat]
    · rw [if_neg hn2]
      refine ⟨?_, ?_, fun t ht => ?_, h.objs, h.saved, h.back, h.few, h.pics⟩
      · show i + 1 < l.length; omega
      · show (r ++ [(i, n - 1)]).map Prod.fst = openAt l (i + 1)
        rw [ho3, List.map_append]; rfl
      · rcases List.mem_append.1 ht with ht | ht
        · exact hll t (by simp [ht])
        · simp at ht; subst ht; show 1 ≤ n - 1 ∧ n - 1 ≤ 9; omega
  rw [if_neg k13]
  by_cases k14 : o.kind = 14
  · rw [if_pos k14]
    exact ⟨hn1, same k12 k13, h.left, h.objs, h.objs, h.back, h.few, h.pics⟩
  rw [if_neg k14]
  by_cases k15 : o.kind = 15
  · rw [if_pos k15]
    exact ⟨hn1, same k12 k13, h.left, h.saved, h.saved, h.back, h.few, h.pics⟩
  rw [if_neg k15]
  by_cases hd : (doP s.objs o).2 ≠ 0
  · rw [if_pos hd]; exact h
  · rw [if_neg hd]
    exact ⟨hn1, same k12 k13, h.left, do_fine h.objs hof, h.saved, h.back, h.few, h.pics⟩
/-- n steps at most, as long as all goes well -/
def runM (l : List FOp) : Nat → MSt → MSt × Nat
  | 0, s => (s, 0)
  | n + 1, s => if (opAt l s.at_).kind = 16 then (s, 0) else if (stepP l s).2 ≠ 0 then stepP l s else runM l n (stepP l s).1
def fuelN (fuel : Int) : Nat := (min fuel 400).toNat
def endM (l : List FOp) (r : MSt × Nat) : List FFrame × Nat := if r.2 ≠ 0 then ([], r.2) else if (opAt l r.1.at_).kind ≠ 16 then ([], 8) else (r.1.frames, 0)
def playP (l : List FOp) (fuel : Int) : List FFrame × Nat := if bookFault l ≠ 0 then ([], bookFault l) else endM l (runM l (fuelN fuel) m0)
theorem runM_ok {l : List FOp} (hf : BookFine l) : ∀ (n : Nat) (s : MSt), MOk l s → MOk l (runM l n s).1
  | 0, s, h => h
  | n + 1, s, h => by
    rw [runM]
    split
    · exact h
    · split
      · exact step_ok hf h
      · exact runM_ok hf n _ (step_ok hf h)
theorem step_le {l : List FOp} {s : MSt} : (stepP l s).2 ≤ 7 := by
  unfold stepP stepO
  repeat' split
  all_goals (first | omega | (show (doP _ _).2 ≤ 7; unfold doP; (repeat' split) <;> simp) | simp)
theorem runM_le {l : List FOp} : ∀ (n : Nat) (s : MSt), (runM l n s).2 ≤ 7
  | 0, s => by simp [runM]
  | n + 1, s => by
    rw [runM]
    split
    · simp
    · split
      · exact step_le
      · exact runM_le n _
theorem playP_le (l : List FOp) (fuel : Int) : (playP l fuel).2 ≤ 8 := by
  have h1 := bookFault_le l
  have h2 := runM_le (l := l) (fuelN fuel) m0
  unfold playP endM
  split
  · show bookFault l ≤ 8; omega
  · split
    · show (runM _ _ _).2 ≤ 8; omega
    · split
      · show 8 ≤ 8; omega
      · show 0 ≤ 8; omega
end Fb
namespace Fb
/-- a run that has ended is the same with more fuel -/
theorem run_more {l : List FOp} : ∀ (n m : Nat) (s : MSt), ((runM l n s).2 ≠ 0 ∨ (opAt l (runM l n s).1.at_).kind = 16) → runM l (n + m) s = runM l n s
  | 0, m, s, h => by
    rcases h with h | h
    · exact absurd rfl h
    · simp only [runM] at h
      cases m with
      | zero => rfl
      | succ m => simp only [runM]; rw [if_pos h]
  | n + 1, m, s, h => by
    rw [show n + 1 + m = (n + m) + 1 by omega]
    rw [runM] at h ⊢
    rw [runM]
    by_cases h1 : (opAt l s.at_).kind = 16
    · rw [if_pos h1, if_pos h1]
    · rw [if_neg h1] at h ⊢
      rw [if_neg h1]
      by_cases h2 : (stepP l s).2 ≠ 0
      · rw [if_pos h2, if_pos h2]
      · rw [if_neg h2] at h ⊢
        rw [if_neg h2]
        exact run_more n m _ h
theorem fuelN_more {f m : Int} (hm : 0 ≤ m) : ∃ d, fuelN (f + m) = fuelN f + d := ⟨fuelN (f + m) - fuelN f, by unfold fuelN; omega⟩
/-- MORE FUEL CHANGES NOTHING -/
theorem play_more {l : List FOp} {f m : Int} (hm : 0 ≤ m) (h : (playP l f).2 ≠ 8) : playP l (f + m) = playP l f := by
  obtain ⟨d, hd⟩ := fuelN_more (f := f) hm
  unfold playP at h ⊢
  by_cases hb : bookFault l ≠ 0
  · rw [if_pos hb, if_pos hb]
  · rw [if_neg hb] at h ⊢
    rw [if_neg hb, hd]
    congr 1
    apply run_more
    unfold endM at h
    by_cases h1 : (runM l (fuelN f) m0).2 ≠ 0
    · exact Or.inl h1
    · rw [if_neg h1] at h
      by_cases h2 : (opAt l (runM l (fuelN f) m0).1.at_).kind = 16
      · exact Or.inr h2
      · rw [if_pos h2] at h; exact absurd rfl h
theorem play_empty {l : List FOp} {f : Int} (h : (playP l f).2 ≠ 0) : (playP l f).1 = [] := by
  unfold playP endM at h ⊢
  repeat' split
  all_goals (first | rfl | (exfalso; simp_all))
/-! ## plain ops -/
structure MC where
  objs : List FObj
  saved : List FObj
  back : Px
  frames : List FFrame
def MSt.core (s : MSt) : MC := ⟨s.objs, s.saved, s.back, s.frames⟩
def MC.at_ (c : MC) (p : Nat) (t : List (Nat × Nat)) : MSt := ⟨p, t, c.objs, c.saved, c.back, c.frames⟩
def plainK (k : Int) : Prop := k ≠ 16 ∧ k ≠ 12 ∧ k ≠ 13
/-- what a plain op does -/
def coreO (W H : Nat) (c : MC) (o : FOp) : MC × Nat :=
  if o.kind = 1 then (c, 0)
  else if o.kind = 10 then ({ c with back := (o.a, o.b) }, 0)
  else if o.kind = 11 then (if c.frames.length = 40 then (c, 7) else ({ c with frames := c.frames ++ [⟨seenP c.objs W H c.back, o.a⟩] }, 0))
  else if o.kind = 14 then ({ c with saved := c.objs }, 0)
  else if o.kind = 15 then ({ c with objs := c.saved }, 0)
  else if (doP c.objs o).2 ≠ 0 then (c, (doP c.objs o).2) else ({ c with objs := (doP c.objs o).1 }, 0)
def coreL (W H : Nat) : List FOp → MC → MC × Nat
  | [], c => (c, 0)
  | o :: r, c => if (coreO W H c o).2 ≠ 0 then coreO W H c o else coreL W H r (coreO W H c o).1
theorem coreL_append (W H : Nat) : ∀ (a b : List FOp) (c : MC), coreL W H (a ++ b) c = if (coreL W H a c).2 ≠ 0 then coreL W H a c else coreL W H b (coreL W H a c).1
  | [], b, c => by simp [coreL]
  | o :: a, b, c => by
    rw [List.cons_append, coreL, coreL]
    by_cases h : (coreO W H c o).2 ≠ 0
    · rw [if_pos h, if_pos h, if_pos h]
    · rw [if_neg h, if_neg h]
      exact coreL_append W H a b _
theorem step_plain {l : List FOp} {c : MC} {p : Nat} {t : List (Nat × Nat)} (h : plainK (opAt l p).kind) :
    stepP l (c.at_ p t) = if (coreO (headW l) (headH l) c (opAt l p)).2 ≠ 0 then (c.at_ p t, (coreO (headW l) (headH l) c (opAt l p)).2) else ((coreO (headW l) (headH l) c (opAt l p)).1.at_ (p + 1) t, 0) := by
  obtain ⟨h1, h2, h3⟩ := h
  unfold stepP
  show stepO l (c.at_ p t) (opAt l p) = _
  generalize opAt l p = o at *
  unfold stepO coreO
  rw [if_neg h1]
  by_cases k1 : o.kind = 1
  · rw [if_pos k1, if_pos k1]; rfl
  rw [if_neg k1, if_neg k1]
  by_cases k10 : o.kind = 10
  · rw [if_pos k10, if_pos k10]; rfl
  rw [if_neg k10, if_neg k10]
  by_cases k11 : o.kind = 11
  · rw [if_pos k11, if_pos k11]
    show (if c.frames.length = 40 then _ else _) = _
    by_cases hf : c.frames.length = 40
    · rw [if_pos hf, if_pos hf]; rfl
    · rw [if_neg hf, if_neg hf]; rfl
  rw [if_neg k11, if_neg k11, if_neg h2, if_neg h3]
  by_cases k14 : o.kind = 14
  · rw [if_pos k14, if_pos k14]; rfl
  rw [if_neg k14, if_neg k14]
  by_cases k15 : o.kind = 15
  · rw [if_pos k15, if_pos k15]; rfl
  rw [if_neg k15, if_neg k15]
  show (if (doP c.objs o).2 ≠ 0 then _ else _) = _
  by_cases hd : (doP c.objs o).2 ≠ 0
  · rw [if_pos hd, if_pos hd, if_pos hd]; rfl
  · rw [if_neg hd, if_neg hd]; rfl
/-- plain ops, one behind the other -/
theorem run_plain {l : List FOp} {t : List (Nat × Nat)} (m : Nat) : ∀ (os : List FOp) (p : Nat) (c : MC), (∀ i, i < os.length → opAt l (p + i) = opAt os i) → (∀ o ∈ os, plainK o.kind) →
    ((coreL (headW l) (headH l) os c).2 = 0 → runM l (os.length + m) (c.at_ p t) = runM l m ((coreL (headW l) (headH l) os c).1.at_ (p + os.length) t)) ∧
    ((coreL (headW l) (headH l) os c).2 ≠ 0 → (runM l (os.length + m) (c.at_ p t)).2 = (coreL (headW l) (headH l) os c).2)
  | [], p, c, _, _ => by
    refine ⟨fun _ => ?_, fun h => absurd rfl h⟩
    simp [coreL]
  | o :: os, p, c, h, hk => by
    have h0 := h 0 (by simp)
    have e0 : opAt (o :: os) 0 = o := rfl
    rw [Nat.add_zero, e0] at h0
    have hk0 := hk o (by simp)
    have hst := step_plain (l := l) (c := c) (p := p) (t := t) (by rw [h0]; exact hk0)
    rw [h0] at hst
    have ih := run_plain (t := t) m os (p + 1) (coreO (headW l) (headH l) c o).1 (fun i hi => by
      have := h (i + 1) (by simpa using hi)
      rw [show p + 1 + i = p + (i + 1) by omega, this]; rfl) (fun q hq => hk q (by simp [hq]))
    have e1 : (o :: os).length + m = (os.length + m) + 1 := by simp; omega
    rw [e1, runM, coreL]
    have hat : (opAt l (c.at_ p t).at_).kind ≠ 16 := by show (opAt l p).kind ≠ 16; rw [h0]; exact hk0.1
    rw [if_neg hat, hst]
    by_cases hf : (coreO (headW l) (headH l) c o).2 ≠ 0
    · rw [if_pos hf, if_pos hf]
      refine ⟨fun e => absurd e hf, fun _ => ?_⟩
      rw [if_pos hf]
    · rw [if_neg hf, if_neg hf]
      simp only [ne_eq, not_true_eq_false, if_false]
      refine ⟨fun e => ?_, fun e => ih.2 e⟩
      rw [ih.1 e]
      congr 2
      simp; omega
end Fb
namespace Fb
def c0 : MC := ⟨[], [], (0, 0), []⟩
theorem c0_at : c0.at_ 0 [] = m0 := rfl
def endC (r : MC × Nat) : List FFrame × Nat := if r.2 ≠ 0 then ([], r.2) else (r.1.frames, 0)
theorem opAt_append_left {a b : List FOp} {i : Nat} (h : i < a.length) : opAt (a ++ b) i = opAt a i := by
  unfold opAt
  rw [List.getD_eq_getElem?_getD, List.getD_eq_getElem?_getD, List.getElem?_append_left h]
theorem opAt_append_right {a b : List FOp} {i : Nat} : opAt (a ++ b) (a.length + i) = opAt b i := by
  unfold opAt
  rw [List.getD_eq_getElem?_getD, List.getD_eq_getElem?_getD, List.getElem?_append_right (by omega), Nat.add_sub_cancel_left]
theorem run_end {l : List FOp} {s : MSt} (h : (opAt l s.at_).kind = 16) : ∀ m, runM l m s = (s, 0)
  | 0 => rfl
  | m + 1 => by rw [runM, if_pos h]
/-- a run that comes to the book's end -/
theorem endM_at {l : List FOp} {c : MC} {p : Nat} {t : List (Nat × Nat)} (m : Nat) (h : (opAt l p).kind = 16) : endM l (runM l m (c.at_ p t)) = (c.frames, 0) := by
  rw [run_end (s := c.at_ p t) h]
  unfold endM
  rw [if_neg (by simp), if_neg (by show ¬ (opAt l p).kind ≠ 16; simpa using h)]
  rfl
theorem fuel_400 : fuelN 400 = 400 := by decide
/-- a book of plain ops -/
theorem play_straight {os : List FOp} {e : FOp} (hf : BookFine (os ++ [e])) (hk : ∀ o ∈ os, plainK o.kind) (hl : os.length ≤ 400) :
    playP (os ++ [e]) 400 = endC (coreL (headW (os ++ [e])) (headH (os ++ [e])) os c0) := by
  obtain ⟨m, hm⟩ : ∃ m, 400 = os.length + m := ⟨400 - os.length, by omega⟩
  obtain ⟨h1, h2⟩ := run_plain (l := os ++ [e]) (t := []) m os 0 c0 (fun i hi => by rw [Nat.zero_add]; exact opAt_append_left hi) hk
  have he : (opAt (os ++ [e]) os.length).kind = 16 := by
    have := hf.last
    simpa using this
  unfold playP
  rw [if_neg (by rw [book_of hf]; simp), fuel_400, hm, ← c0_at]
  unfold endC
  by_cases hr : (coreL (headW (os ++ [e])) (headH (os ++ [e])) os c0).2 ≠ 0
  · rw [if_pos hr]
    have := h2 hr
    unfold endM
    rw [this, if_pos hr]
  · rw [if_neg hr]
    rw [h1 (by omega), Nat.zero_add, endM_at m he]
/-! ## a loop of plain ops -/
def times (k : Nat) (os : List FOp) : List FOp := (List.replicate k os).flatten
theorem times_succ (k : Nat) (os : List FOp) : times (k + 1) os = os ++ times k os := by unfold times; rw [List.replicate_succ, List.flatten_cons]
theorem times_len (k : Nat) (os : List FOp) : (times k os).length = k * os.length := by unfold times; simp
theorem step_next {l : List FOp} {c : MC} {q p k : Nat} {t : List (Nat × Nat)} (h : (opAt l q).kind = 13) : stepP l (c.at_ q (t ++ [(p, k)])) = (if k ≤ 1 then c.at_ (q + 1) t else c.at_ (p + 1) (t ++ [(p, k - 1)]), 0) := by
  unfold stepP
  show stepO l (c.at_ q (t ++ [(p, k)])) (opAt l q) = _
  unfold stepO
  rw [if_neg (by omega), if_neg (by omega), if_neg (by omega), if_neg (by omega), if_neg (by omega), if_pos h]
  rw [turnM_eq (s := c.at_ q (t ++ [(p, k)])) (r := t) (i := p) (n := k) rfl]
  by_cases hk : k ≤ 1
  · rw [if_pos hk, if_pos hk]; rfl
  · rw [if_neg hk, if_neg hk]; rfl
/-- the rounds of a loop -/
theorem run_rounds {l : List FOp} {os : List FOp} {p : Nat} {t : List (Nat × Nat)} (ho : ∀ i, i < os.length → opAt l (p + 1 + i) = opAt os i) (hk : ∀ o ∈ os, plainK o.kind) (hn : (opAt l (p + 1 + os.length)).kind = 13) (m : Nat) :
    ∀ (k : Nat) (c : MC), 1 ≤ k →
    ((coreL (headW l) (headH l) (times k os) c).2 = 0 → runM l (k * (os.length + 1) + m) (c.at_ (p + 1) (t ++ [(p, k)])) = runM l m ((coreL (headW l) (headH l) (times k os) c).1.at_ (p + 1 + os.length + 1) t)) ∧
    ((coreL (headW l) (headH l) (times k os) c).2 ≠ 0 → (runM l (k * (os.length + 1) + m) (c.at_ (p + 1) (t ++ [(p, k)]))).2 = (coreL (headW l) (headH l) (times k os) c).2)
  | 0, c, h => absurd h (by omega)
  | k + 1, c, _ => by
    obtain ⟨h1, h2⟩ := run_plain (l := l) (t := t ++ [(p, k + 1)]) (1 + (k * (os.length + 1) + m)) os (p + 1) c ho hk
    have e : (k + 1) * (os.length + 1) + m = os.length + (1 + (k * (os.length + 1) + m)) := by rw [Nat.add_mul]; omega
    rw [e, times_succ, coreL_append]
    by_cases hr : (coreL (headW l) (headH l) os c).2 ≠ 0
    · rw [if_pos hr]
      exact ⟨fun h => absurd h hr, fun _ => h2 hr⟩
    · rw [if_neg hr]
      have hr0 : (coreL (headW l) (headH l) os c).2 = 0 := by omega
      rw [h1 hr0]
      have hst := step_next (l := l) (c := (coreL (headW l) (headH l) os c).1) (q := p + 1 + os.length) (p := p) (k := k + 1) (t := t) hn
      have hne : (opAt l ((coreL (headW l) (headH l) os c).1.at_ (p + 1 + os.length) (t ++ [(p, k + 1)])).at_).kind ≠ 16 := by show (opAt l (p + 1 + os.length)).kind ≠ 16; omega
      rw [show 1 + (k * (os.length + 1) + m) = (k * (os.length + 1) + m) + 1 by omega, runM, if_neg hne, hst, if_neg (by simp)]
      by_cases hk0 : k = 0
      · subst hk0
        simp [times, coreL]
      · rw [if_neg (by omega), Nat.add_sub_cancel]
        exact run_rounds ho hk hn m k _ (by omega)
theorem endGo_plain {n : Nat} : ∀ (os r : List FOp) (k d : Nat), (∀ o ∈ os, plainK o.kind) → endGo n (os ++ r) k d = endGo n r (k + os.length) d
  | [], r, k, d, _ => rfl
  | o :: os, r, k, d, h => by
    obtain ⟨-, h2, h3⟩ := h o (by simp)
    rw [List.cons_append, endGo, if_neg h2, if_neg h3, endGo_plain os r _ _ (fun q hq => h q (by simp [hq]))]
    congr 1
    simp; omega
theorem step_loop {l : List FOp} {c : MC} {p : Nat} {t : List (Nat × Nat)} (h : (opAt l p).kind = 12) : stepP l (c.at_ p t) = (if (opAt l p).a = 0 then c.at_ (endP l p + 1) t else c.at_ (p + 1) (t ++ [(p, (opAt l p).a.toNat)]), 0) := by
  unfold stepP
  show stepO l (c.at_ p t) (opAt l p) = _
  unfold stepO
  rw [if_neg (by omega), if_neg (by omega), if_neg (by omega), if_neg (by omega), if_pos h]
  by_cases ha : (opAt l p).a = 0
  · rw [if_pos ha, if_pos ha]; rfl
  · rw [if_neg ha, if_neg ha]; rfl
/-- the op at a place behind a list -/
theorem opAt_behind {a b : List FOp} {n i : Nat} (h : a.length = n) : opAt (a ++ b) (n + i) = opAt b i := by subst h; exact opAt_append_right
/-- a book with one loop of plain ops -/
theorem play_loop {pre body tail : List FOp} {L N E : FOp} (hf : BookFine (pre ++ L :: (body ++ N :: (tail ++ [E])))) (h1 : ∀ o ∈ pre, plainK o.kind) (h2 : ∀ o ∈ body, plainK o.kind) (h3 : ∀ o ∈ tail, plainK o.kind)
    (hL : L.kind = 12) (hN : N.kind = 13) {k : Nat} (ha : L.a = (k : Int)) (hfu : pre.length + 1 + k * (body.length + 1) + tail.length ≤ 400) :
    playP (pre ++ L :: (body ++ N :: (tail ++ [E]))) 400 = endC (coreL (headW (pre ++ L :: (body ++ N :: (tail ++ [E])))) (headH (pre ++ L :: (body ++ N :: (tail ++ [E])))) (pre ++ (times k body ++ tail)) c0) := by
  obtain ⟨l, hl⟩ : ∃ l, pre ++ L :: (body ++ N :: (tail ++ [E])) = l := ⟨_, rfl⟩
  have hp : ∀ i, i < pre.length → opAt l i = opAt pre i := fun i hi => by rw [← hl]; exact opAt_append_left hi
  have eL : opAt l pre.length = L := by rw [← hl]; simp [opAt]
  have eb : l = (pre ++ [L]) ++ (body ++ N :: (tail ++ [E])) := by rw [← hl]; simp
  have hb : ∀ i, i < body.length → opAt l (pre.length + 1 + i) = opAt body i := fun i hi => by
    rw [eb, opAt_behind (n := pre.length + 1) (by simp), opAt_append_left hi]
  have en : l = (pre ++ L :: body) ++ (N :: (tail ++ [E])) := by rw [← hl]; simp
  have hNat : opAt l (pre.length + 1 + body.length) = N := by
    have := opAt_behind (a := pre ++ L :: body) (b := N :: (tail ++ [E])) (n := pre.length + 1 + body.length) (i := 0) (by simp; omega)
    rw [← en] at this
    simpa [opAt] using this
  have et : l = (pre ++ L :: (body ++ [N])) ++ (tail ++ [E]) := by rw [← hl]; simp
  have ht : ∀ i, i < tail.length → opAt l (pre.length + 1 + body.length + 1 + i) = opAt tail i := fun i hi => by
    rw [et, opAt_behind (n := pre.length + 1 + body.length + 1) (by simp; omega), opAt_append_left hi]
  have hE : (opAt l (pre.length + 1 + body.length + 1 + tail.length)).kind = 16 := by
    have := hf.last
    rw [hl] at this
    rw [show pre.length + 1 + body.length + 1 + tail.length = l.length - 1 by rw [← hl]; simp; omega]
    exact this
  have hend : endP l pre.length = pre.length + 1 + body.length := by
    unfold endP
    have : l.drop pre.length = L :: (body ++ N :: (tail ++ [E])) := by rw [← hl, List.drop_left]
    rw [this, endGo, if_pos hL, endGo_plain body _ _ _ h2, endGo, if_neg (by omega), if_pos hN, if_pos (by omega)]
  rw [hl] at hf ⊢
  obtain ⟨m, hm⟩ : ∃ m, 400 = pre.length + ((k * (body.length + 1) + (tail.length + m)) + 1) := ⟨400 - (pre.length + ((k * (body.length + 1) + tail.length) + 1)), by omega⟩
  have r1 := run_plain (l := l) (t := []) ((k * (body.length + 1) + (tail.length + m)) + 1) pre 0 c0 (fun i hi => by rw [Nat.zero_add]; exact hp i hi) h1
  unfold playP
  rw [if_neg (by rw [book_of hf]; simp), fuel_400, hm, ← c0_at]
  have ap := coreL_append (headW l) (headH l) pre (times k body ++ tail) c0
  rw [ap]
  unfold endC
  by_cases f1 : (coreL (headW l) (headH l) pre c0).2 ≠ 0
  · rw [if_pos f1, if_pos f1]
    unfold endM
    rw [r1.2 f1, if_pos f1]
  rw [if_neg f1]
  rw [r1.1 (by omega), Nat.zero_add]
  obtain ⟨c1, hc1⟩ : ∃ c1, (coreL (headW l) (headH l) pre c0).1 = c1 := ⟨_, rfl⟩
  rw [hc1]
  -- the tail, from where the loop is left
  have last : ∀ (c2 : MC) (x : Nat), endM l (runM l (tail.length + x) (c2.at_ (pre.length + 1 + body.length + 1) [])) = endC (coreL (headW l) (headH l) tail c2) := by
    intro c2 x
    have r3 := run_plain (l := l) (t := []) x tail (pre.length + 1 + body.length + 1) c2 ht h3
    unfold endC
    by_cases f3 : (coreL (headW l) (headH l) tail c2).2 ≠ 0
    · rw [if_pos f3]
      unfold endM
      rw [r3.2 f3, if_pos f3]
    · rw [if_neg f3, r3.1 (by omega), endM_at x hE]
  have hne : (opAt l (c1.at_ pre.length []).at_).kind ≠ 16 := by show (opAt l pre.length).kind ≠ 16; rw [eL, hL]; decide
  have hst := step_loop (l := l) (c := c1) (p := pre.length) (t := []) (by rw [eL]; exact hL)
  rw [runM, if_neg hne, hst, if_neg (by simp), eL, ha, hend]
  have ap2 := coreL_append (headW l) (headH l) (times k body) tail c1
  rw [ap2]
  by_cases hk0 : k = 0
  · subst hk0
    rw [if_pos (show ((0 : Nat) : Int) = 0 from rfl)]
    have := last c1 m
    have e0 : times 0 body = [] := rfl
    have e1 : (if ((c1, 0) : MC × Nat).2 ≠ 0 then ((c1, 0) : MC × Nat) else coreL (headW l) (headH l) tail ((c1, 0) : MC × Nat).1) = coreL (headW l) (headH l) tail c1 := if_neg (by simp)
    rw [e0, coreL, e1, Nat.zero_mul, Nat.zero_add]
    exact this
  · rw [if_neg (by omega), Int.toNat_natCast]
    have r2 := run_rounds (l := l) (os := body) (p := pre.length) (t := []) hb h2 (by rw [hNat]; exact hN) (tail.length + m) k c1 (by omega)
    by_cases f2 : (coreL (headW l) (headH l) (times k body) c1).2 ≠ 0
    · rw [if_pos f2, if_pos f2]
      unfold endM
      rw [r2.2 f2, if_pos f2]
    · rw [if_neg f2, r2.1 (by omega)]
      have := last (coreL (headW l) (headH l) (times k body) c1).1 m
      rw [this]
      rfl
end Fb
namespace Fb
theorem coreO_wait {W H : Nat} {c : MC} {o : FOp} (h : o.kind = 11) : coreO W H c o = if c.frames.length = 40 then (c, 7) else ({ c with frames := c.frames ++ [⟨seenP c.objs W H c.back, o.a⟩] }, 0) := by
  unfold coreO
  rw [if_neg (by omega), if_neg (by omega), if_pos h]
theorem coreO_do {W H : Nat} {c : MC} {o : FOp} (h : o.kind ≠ 1 ∧ o.kind ≠ 10 ∧ o.kind ≠ 11 ∧ o.kind ≠ 14 ∧ o.kind ≠ 15) : coreO W H c o = if (doP c.objs o).2 ≠ 0 then (c, (doP c.objs o).2) else ({ c with objs := (doP c.objs o).1 }, 0) := by
  unfold coreO
  rw [if_neg h.1, if_neg h.2.1, if_neg h.2.2.1, if_neg h.2.2.2.1, if_neg h.2.2.2.2]
theorem coreL_cons {W H : Nat} {o : FOp} {r : List FOp} {c : MC} : coreL W H (o :: r) c = if (coreO W H c o).2 ≠ 0 then coreO W H c o else coreL W H r (coreO W H c o).1 := rfl
theorem coreL_step {W H : Nat} {o : FOp} {r : List FOp} {c c1 : MC} (h : coreO W H c o = (c1, 0)) : coreL W H (o :: r) c = coreL W H r c1 := by rw [coreL_cons, h, if_neg (by simp)]
theorem coreL_bad {W H : Nat} {o : FOp} {r : List FOp} {c c1 : MC} {f : Nat} (h : coreO W H c o = (c1, f)) (hf : f ≠ 0) : coreL W H (o :: r) c = (c1, f) := by rw [coreL_cons, h, if_pos hf]
/-- what stays so: the objects are as they may be -/
theorem coreO_fine {W H : Nat} {c : MC} {o : FOp} (ho : opFault o = 0) (h1 : ObjsFine c.objs) (h2 : ObjsFine c.saved) : ObjsFine (coreO W H c o).1.objs ∧ ObjsFine (coreO W H c o).1.saved := by
  unfold coreO
  split
  · exact ⟨h1, h2⟩
  · split
    · exact ⟨h1, h2⟩
    · split
      · split
        · exact ⟨h1, h2⟩
        · exact ⟨h1, h2⟩
      · split
        · exact ⟨h1, h1⟩
        · split
          · exact ⟨h2, h2⟩
          · split
            · exact ⟨h1, h2⟩
            · exact ⟨do_fine h1 ho, h2⟩
theorem coreL_fine {W H : Nat} : ∀ {os : List FOp} {c : MC}, (∀ o ∈ os, opFault o = 0) → ObjsFine c.objs → ObjsFine c.saved → ObjsFine (coreL W H os c).1.objs ∧ ObjsFine (coreL W H os c).1.saved
  | [], _, _, h1, h2 => ⟨h1, h2⟩
  | o :: os, c, h, h1, h2 => by
    have := coreO_fine (W := W) (H := H) (h o (by simp)) h1 h2
    rw [coreL_cons]
    split
    · exact this
    · exact coreL_fine (fun q hq => h q (by simp [hq])) this.1 this.2
/-- a book that is a longer one, with a piece behind -/
theorem play_behind {pre tail : List FOp} {E : FOp} (hf : BookFine (pre ++ tail ++ [E])) (h1 : ∀ o ∈ pre, plainK o.kind) (h2 : ∀ o ∈ tail, plainK o.kind) (hl : pre.length + tail.length ≤ 400) (hp : pre ≠ []) :
    playP (pre ++ tail ++ [E]) 400 = endC (if (coreL (headW pre) (headH pre) pre c0).2 ≠ 0 then coreL (headW pre) (headH pre) pre c0 else coreL (headW pre) (headH pre) tail (coreL (headW pre) (headH pre) pre c0).1) := by
  have hk : ∀ o ∈ pre ++ tail, plainK o.kind := fun o ho => by
    rcases List.mem_append.1 ho with ho | ho
    · exact h1 o ho
    · exact h2 o ho
  have h0 : opAt (pre ++ tail ++ [E]) 0 = opAt pre 0 := by
    rw [List.append_assoc]
    exact opAt_append_left (by cases pre with
      | nil => exact absurd rfl hp
      | cons a b => simp)
  have hW : headW (pre ++ tail ++ [E]) = headW pre := by unfold headW; rw [h0]
  have hH : headH (pre ++ tail ++ [E]) = headH pre := by unfold headH; rw [h0]
  rw [play_straight hf hk (by simp; omega), hW, hH, coreL_append]
/-! ## waits with nothing between -/
def waitOp (a : Int) : FOp := ⟨11, 0, a, 0, 0, 0, ⟨0, 0, []⟩⟩
theorem still_core {W H : Nat} {c : MC} {a b : Int} (h : (coreL W H [waitOp a, waitOp b] c).2 = 0) : ∃ F S, (coreL W H [waitOp a, waitOp b] c).1.frames = F ++ [⟨S, a⟩, ⟨S, b⟩] := by
  have w1 := coreO_wait (W := W) (H := H) (c := c) (o := waitOp a) rfl
  by_cases f1 : c.frames.length = 40
  · rw [if_pos f1] at w1
    rw [coreL_bad w1 (by decide)] at h
    exact absurd h (show ¬ (7 : Nat) = 0 by decide)
  rw [if_neg f1] at w1
  rw [coreL_step w1] at h ⊢
  have w2 := coreO_wait (W := W) (H := H) (c := { c with frames := c.frames ++ [⟨seenP c.objs W H c.back, (waitOp a).a⟩] }) (o := waitOp b) rfl
  by_cases f2 : ({ c with frames := c.frames ++ [⟨seenP c.objs W H c.back, (waitOp a).a⟩] } : MC).frames.length = 40
  · rw [if_pos f2] at w2
    rw [coreL_bad w2 (by decide)] at h
    exact absurd h (show ¬ (7 : Nat) = 0 by decide)
  rw [if_neg f2] at w2
  rw [coreL_step w2, coreL]
  exact ⟨c.frames, seenP c.objs W H c.back, by simp [waitOp]⟩
/-! ## what is taken away, or hidden -/
def dropOp (i : Int) : FOp := ⟨7, i, 0, 0, 0, 0, ⟨0, 0, []⟩⟩
def showOp (i a : Int) : FOp := ⟨5, i, a, 0, 0, 0, ⟨0, 0, []⟩⟩
def moveOp (i a b : Int) : FOp := ⟨3, i, a, b, 0, 0, ⟨0, 0, []⟩⟩
theorem do_drop {l : List FObj} {i : Int} : doP l (dropOp i) = match getP i l with | none => ([], 5) | some _ => (dropP i l, 0) := by
  unfold doP dropOp
  simp only
  rw [if_neg (by decide)]
  cases getP i l <;> simp
theorem do_show {l : List FObj} {i a : Int} : doP l (showOp i a) = match getP i l with | none => ([], 5) | some o => (setP { o with shown := decide (a = 1) } l, 0) := by
  unfold doP showOp
  simp only
  rw [if_neg (by decide)]
  cases getP i l with
  | none => rfl
  | some o => simp [turnP]
theorem do_move {l : List FObj} {i a b : Int} : doP l (moveOp i a b) = match getP i l with | none => ([], 5) | some o => (setP { o with x := a, y := b } l, 0) := by
  unfold doP moveOp
  simp only
  rw [if_neg (by decide)]
  cases getP i l with
  | none => rfl
  | some o => simp [turnP]
theorem away_core {W H : Nat} {c : MC} {i : Int} (hr : Rise c.objs) : endC (coreL W H [dropOp i, waitOp 0] c) = endC (coreL W H [showOp i 0, waitOp 0] c) := by
  have d := coreO_do (W := W) (H := H) (c := c) (o := dropOp i) (show (7 : Int) ≠ 1 ∧ (7 : Int) ≠ 10 ∧ (7 : Int) ≠ 11 ∧ (7 : Int) ≠ 14 ∧ (7 : Int) ≠ 15 by decide)
  have s := coreO_do (W := W) (H := H) (c := c) (o := showOp i 0) (show (5 : Int) ≠ 1 ∧ (5 : Int) ≠ 10 ∧ (5 : Int) ≠ 11 ∧ (5 : Int) ≠ 14 ∧ (5 : Int) ≠ 15 by decide)
  rw [do_drop] at d
  rw [do_show] at s
  cases hg : getP i c.objs with
  | none =>
    rw [hg] at d s
    simp only at d s
    rw [if_pos (by decide)] at d s
    rw [coreL_bad d (by decide), coreL_bad s (by decide)]
  | some o =>
    rw [hg] at d s
    simp only at d s
    rw [if_neg (by simp)] at d s
    rw [coreL_step d, coreL_step s, coreL_cons, coreL_cons, coreO_wait rfl, coreO_wait rfl]
    have hid : o.id = i := (get_mem hg).2
    have hs := seen_hidden (o := { o with shown := decide ((0 : Int) = 1) }) (l := c.objs) rfl hr W H c.back
    simp only at hs ⊢
    rw [hs, hid]
    by_cases f : c.frames.length = 40
    · rw [if_pos f, if_pos f]; rfl
    · rw [if_neg f, if_neg f]; rfl
/-! ## moved and back, hidden and shown -/
theorem set_set {a b : FObj} (h : a.id = b.id) : ∀ {l : List FObj}, setP a (setP b l) = setP a l
  | [] => by
    unfold setP
    simp only [setP]
    rw [if_neg (by omega), if_pos (by omega)]
  | r :: l => by
    by_cases h1 : r.id < b.id
    · rw [show setP b (r :: l) = r :: setP b l by rw [setP, if_pos h1]]
      rw [setP, if_pos (by omega), setP, if_pos (by omega), set_set h]
    · by_cases h2 : r.id = b.id
      · rw [show setP b (r :: l) = b :: l by rw [setP, if_neg h1, if_pos h2]]
        rw [setP, if_neg (by omega), if_pos (by omega), setP, if_neg (by omega), if_pos (by omega)]
      · rw [show setP b (r :: l) = b :: r :: l by rw [setP, if_neg h1, if_neg h2]]
        rw [setP, if_neg (by omega), if_pos (by omega), setP, if_neg (by omega), if_neg (by omega)]
/-- one op on an object that was laid is one op on it -/
theorem core_move {W H : Nat} {c : MC} {o : FObj} {i a b : Int} (h : getP i c.objs = some o) : coreO W H c (moveOp i a b) = ({ c with objs := setP { o with x := a, y := b } c.objs }, 0) := by
  rw [coreO_do (show (3 : Int) ≠ 1 ∧ (3 : Int) ≠ 10 ∧ (3 : Int) ≠ 11 ∧ (3 : Int) ≠ 14 ∧ (3 : Int) ≠ 15 by decide), do_move, h]
  simp
theorem core_move_none {W H : Nat} {c : MC} {i a b : Int} (h : getP i c.objs = none) : coreO W H c (moveOp i a b) = (c, 5) := by
  rw [coreO_do (show (3 : Int) ≠ 1 ∧ (3 : Int) ≠ 10 ∧ (3 : Int) ≠ 11 ∧ (3 : Int) ≠ 14 ∧ (3 : Int) ≠ 15 by decide), do_move, h]
  simp
theorem core_show {W H : Nat} {c : MC} {o : FObj} {i a : Int} (h : getP i c.objs = some o) : coreO W H c (showOp i a) = ({ c with objs := setP { o with shown := decide (a = 1) } c.objs }, 0) := by
  rw [coreO_do (show (5 : Int) ≠ 1 ∧ (5 : Int) ≠ 10 ∧ (5 : Int) ≠ 11 ∧ (5 : Int) ≠ 14 ∧ (5 : Int) ≠ 15 by decide), do_show, h]
  simp
theorem core_wait {W H : Nat} {c : MC} {a : Int} : coreO W H c (waitOp a) = if c.frames.length = 40 then (c, 7) else ({ c with frames := c.frames ++ [⟨seenP c.objs W H c.back, a⟩] }, 0) := coreO_wait rfl
theorem get_set_self {o : FObj} {l : List FObj} {i : Int} (h : o.id = i) : getP i (setP o l) = some o := by rw [get_set, if_pos h]
def moveOps (i x y : Int) : List FOp := [moveOp i 0 0, showOp i 1, waitOp 0, moveOp i x y, waitOp 0, showOp i 0, moveOp i 0 0, showOp i 1, waitOp 0]
theorem move_core {W H : Nat} {c : MC} {i x y : Int} (h : (coreL W H (moveOps i x y) c).2 = 0) : ∃ F S T, (coreL W H (moveOps i x y) c).1.frames = F ++ [⟨S, 0⟩, ⟨T, 0⟩, ⟨S, 0⟩] := by
  unfold moveOps at h ⊢
  cases hg : getP i c.objs with
  | none =>
    rw [coreL_bad (core_move_none hg) (by decide)] at h
    exact absurd h (show ¬ (5 : Nat) = 0 by decide)
  | some o =>
    have hid : o.id = i := (get_mem hg).2
    have h40 : ¬ (7 : Nat) = 0 := by decide
    rw [coreL_step (core_move hg)] at h ⊢
    rw [coreL_step (core_show (get_set_self (by exact hid)))] at h ⊢
    simp only [set_set, decide_true] at h ⊢
    by_cases f1 : c.frames.length = 40
    · rw [coreL_bad (by rw [core_wait, if_pos f1]) (by decide)] at h
      exact absurd h h40
    rw [coreL_step (by rw [core_wait, if_neg f1])] at h ⊢
    rw [coreL_step (core_move (get_set_self (by exact hid)))] at h ⊢
    simp only [set_set] at h ⊢
    by_cases f2 : (c.frames ++ [(⟨seenP (setP { o with x := 0, y := 0, shown := true } c.objs) W H c.back, 0⟩ : FFrame)]).length = 40
    · rw [coreL_bad (by rw [core_wait, if_pos f2]) (by decide)] at h
      exact absurd h h40
    rw [coreL_step (by rw [core_wait, if_neg f2])] at h ⊢
    rw [coreL_step (core_show (get_set_self (by exact hid)))] at h ⊢
    simp only [set_set] at h ⊢
    rw [coreL_step (core_move (get_set_self (by exact hid)))] at h ⊢
    simp only [set_set] at h ⊢
    rw [coreL_step (core_show (get_set_self (by exact hid)))] at h ⊢
    simp only [set_set, decide_true] at h ⊢
    by_cases f3 : (c.frames ++ [(⟨seenP (setP { o with x := 0, y := 0, shown := true } c.objs) W H c.back, 0⟩ : FFrame)] ++ [(⟨seenP (setP { o with x := x, y := y, shown := true } c.objs) W H c.back, 0⟩ : FFrame)]).length = 40
    · rw [coreL_bad (by rw [core_wait, if_pos f3]) (by decide)] at h
      exact absurd h h40
    rw [coreL_step (by rw [core_wait, if_neg f3]), coreL]
    exact ⟨c.frames, _, _, by simp; exact ⟨rfl, rfl, rfl⟩⟩
/-! ## nothing but what is behind all -/
def backOp (p : Px) : FOp := ⟨10, 0, p.1, p.2, 0, 0, ⟨0, 0, []⟩⟩
theorem core_backs {W H : Nat} : ∀ (bs : List Px) (c : MC), coreL W H (bs.map backOp) c = ({ c with back := bs.getLast?.getD c.back }, 0)
  | [], c => rfl
  | p :: bs, c => by
    rw [List.map_cons, coreL_step (c1 := { c with back := p }) (by unfold coreO backOp; simp), core_backs bs]
    cases bs with
    | nil => rfl
    | cons q r =>
      rw [List.getLast?_cons_cons]
      cases h : (q :: r).getLast? with
      | none => simp at h
      | some v => rfl
theorem seen_nil (W H : Nat) (b : Px) : seenP [] W H b = plainP W H b := rfl
end Fb
namespace Fb
def loopOp (a : Int) : FOp := ⟨12, 0, a, 0, 0, 0, ⟨0, 0, []⟩⟩
def nextOp : FOp := ⟨13, 0, 0, 0, 0, 0, ⟨0, 0, []⟩⟩
def endOp : FOp := ⟨16, 0, 0, 0, 0, 0, ⟨0, 0, []⟩⟩
def headOp (w h : Int) : FOp := ⟨1, 0, w, h, 0, 0, ⟨0, 0, []⟩⟩
def nestL (a b d : Int) : List FOp := [headOp 1 1, loopOp a, loopOp b, waitOp d, nextOp, nextOp, endOp]
theorem wait_times {W H : Nat} {d : Int} : ∀ (b : Nat) (c : MC), c.frames.length + b ≤ 40 → ∃ F, coreL W H (times b [waitOp d]) c = ({ c with frames := F }, 0) ∧ F.length = c.frames.length + b
  | 0, c, _ => ⟨c.frames, rfl, by simp⟩
  | b + 1, c, h => by
    rw [times_succ, List.singleton_append]
    obtain ⟨F, h1, h2⟩ := wait_times (W := W) (H := H) (d := d) b { c with frames := c.frames ++ [⟨seenP c.objs W H c.back, d⟩] } (by simp; omega)
    rw [coreL_step (by rw [core_wait, if_neg (by omega)]), h1]
    exact ⟨F, rfl, by rw [h2]; simp; omega⟩
/-- one pass of the inner loop -/
theorem run_inner {a b : Nat} {d : Int} {t : List (Nat × Nat)} (m : Nat) (c : MC) (hc : c.frames.length + b ≤ 40) :
    ∃ F, F.length = c.frames.length + b ∧ runM (nestL a b d) (1 + 2 * b + m) (c.at_ 2 t) = runM (nestL a b d) m (({ c with frames := F } : MC).at_ 5 t) := by
  obtain ⟨F, h1, h2⟩ := wait_times (W := headW (nestL a b d)) (H := headH (nestL a b d)) (d := d) b c hc
  refine ⟨F, h2, ?_⟩
  have hst := step_loop (l := nestL a b d) (c := c) (p := 2) (t := t) rfl
  have hne : ¬ (opAt (nestL a b d) (c.at_ 2 t).at_).kind = 16 := by show ¬ (12 : Int) = 16; decide
  have hend : endP (nestL a b d) 2 = 4 := rfl
  rw [show 1 + 2 * b + m = (2 * b + m) + 1 by omega, runM, if_neg hne, hst, if_neg (by simp), hend]
  by_cases hb : b = 0
  · subst hb
    rw [if_pos (show (opAt (nestL a ((0 : Nat) : Int) d) 2).a = 0 from rfl)]
    have : F = c.frames := by
      have e : coreL (headW (nestL a ((0 : Nat) : Int) d)) (headH (nestL a ((0 : Nat) : Int) d)) (times 0 [waitOp d]) c = (c, 0) := rfl
      rw [e] at h1
      injection h1 with h1
      have := congrArg MC.frames h1
      exact this.symm
    subst this
    simp
  · have hba : (opAt (nestL a b d) 2).a = (b : Int) := rfl
    rw [if_neg (by rw [hba]; omega), hba, Int.toNat_natCast]
    have r := (run_rounds (l := nestL a b d) (os := [waitOp d]) (p := 2) (t := t) (fun i hi => by
      obtain rfl : i = 0 := by simpa using hi
      rfl) (fun o ho => by
      simp at ho; subst ho; exact ⟨show ¬ (11 : Int) = 16 by decide, show ¬ (11 : Int) = 12 by decide, show ¬ (11 : Int) = 13 by decide⟩) rfl m b c (by omega)).1 (by rw [h1])
    rw [h1] at r
    have e : 2 * b + m = b * ([waitOp d].length + 1) + m := by simp; omega
    rw [e]
    exact r
theorem run_outer {a b : Nat} {d : Int} (m : Nat) : ∀ (k : Nat) (c : MC), 1 ≤ k → c.frames.length + k * b ≤ 40 →
    ∃ F, F.length = c.frames.length + k * b ∧ runM (nestL a b d) (k * (2 * b + 2) + m) (c.at_ 2 [(1, k)]) = runM (nestL a b d) m (({ c with frames := F } : MC).at_ 6 [])
  | 0, c, h, _ => absurd h (by omega)
  | k + 1, c, _, hc => by
    have hkb : (k + 1) * b = k * b + b := by rw [Nat.add_mul]; omega
    obtain ⟨F, h1, h2⟩ := run_inner (a := a) (d := d) (t := [(1, k + 1)]) (1 + (k * (2 * b + 2) + m)) c (b := b) (by omega)
    have e : (k + 1) * (2 * b + 2) + m = 1 + 2 * b + (1 + (k * (2 * b + 2) + m)) := by rw [Nat.add_mul]; omega
    rw [e, h2]
    have hst := step_next (l := nestL a b d) (c := { c with frames := F }) (q := 5) (p := 1) (k := k + 1) (t := []) rfl
    have hne : ¬ (opAt (nestL a b d) ((({ c with frames := F } : MC).at_ 5 ([] ++ [(1, k + 1)])).at_)).kind = 16 := by show ¬ (13 : Int) = 16; decide
    rw [show 1 + (k * (2 * b + 2) + m) = (k * (2 * b + 2) + m) + 1 by omega]
    rw [List.nil_append] at hst hne
    rw [runM, if_neg hne, hst, if_neg (by simp)]
    by_cases hk : k = 0
    · subst hk
      refine ⟨F, by omega, ?_⟩
      rw [if_pos (by omega)]
      simp
    · rw [if_neg (by omega), Nat.add_sub_cancel]
      obtain ⟨F2, h3, h4⟩ := run_outer (a := a) (b := b) (d := d) m k { c with frames := F } (by omega) (by show F.length + k * b ≤ 40; omega)
      refine ⟨F2, ?_, h4⟩
      rw [h3]
      show F.length + k * b = _
      omega
/-- a loop in a loop is done as often as both together say -/
theorem play_nest {a b : Nat} {d : Int} (hf : BookFine (nestL a b d)) (hab : a * b ≤ 40) : ∃ F, playP (nestL a b d) 400 = (F, 0) ∧ F.length = a * b := by
  have ha9 : a ≤ 9 := by
    have := loop_bd (hf.ops 1 (by show 1 < 7; decide)) rfl
    have e : (opAt (nestL a b d) 1).a = (a : Int) := rfl
    rw [e] at this
    omega
  have hfu : a * (2 * b + 2) ≤ 98 := by
    have : a * (2 * b + 2) = 2 * (a * b) + 2 * a := by rw [Nat.mul_add, Nat.mul_left_comm]; omega
    omega
  obtain ⟨m, hm⟩ : ∃ m, 400 = (a * (2 * b + 2) + m) + 1 + 1 := ⟨398 - a * (2 * b + 2), by omega⟩
  have hst0 := step_plain (l := nestL a b d) (c := c0) (p := 0) (t := []) ⟨show ¬ (1 : Int) = 16 by decide, show ¬ (1 : Int) = 12 by decide, show ¬ (1 : Int) = 13 by decide⟩
  have hc1 : coreO (headW (nestL a b d)) (headH (nestL a b d)) c0 (opAt (nestL a b d) 0) = (c0, 0) := rfl
  rw [hc1, if_neg (by simp)] at hst0
  have hst1 := step_loop (l := nestL a b d) (c := c0) (p := 1) (t := []) rfl
  have hend : endP (nestL a b d) 1 = 5 := rfl
  have haa : (opAt (nestL a b d) 1).a = (a : Int) := rfl
  rw [hend, haa] at hst1
  have n0 : ¬ (opAt (nestL a b d) (c0.at_ 0 []).at_).kind = 16 := by show ¬ (1 : Int) = 16; decide
  have n1 : ¬ (opAt (nestL a b d) (c0.at_ 1 []).at_).kind = 16 := by show ¬ (12 : Int) = 16; decide
  unfold playP
  rw [if_neg (by rw [book_of hf]; simp), fuel_400, hm, ← c0_at, runM, if_neg n0, hst0, if_neg (by simp), Nat.zero_add, runM, if_neg n1, hst1, if_neg (by simp)]
  by_cases h0 : a = 0
  · subst h0
    rw [if_pos (show ((0 : Nat) : Int) = 0 from rfl)]
    exact ⟨c0.frames, endM_at (l := nestL ((0 : Nat) : Int) b d) (c := c0) (p := 6) (t := []) _ rfl, by simp [c0]⟩
  · rw [if_neg (by omega), Int.toNat_natCast, List.nil_append]
    obtain ⟨F, h1, h2⟩ := run_outer (a := a) (b := b) (d := d) m a c0 (by omega) (by show 0 + a * b ≤ 40; omega)
    refine ⟨F, ?_, by rw [h1]; show 0 + a * b = _; omega⟩
    show endM _ (runM _ _ (c0.at_ (1 + 1) [(1, a)])) = _
    rw [h2]
    exact endM_at (l := nestL a b d) (c := { c0 with frames := F }) (p := 6) (t := []) m rfl
end Fb
