/- blend.Plain returns a picture of one pixel, in new memory. Conditions: sides from 1 to 30. -/
import Derived.Test.YtgkemeclpidmcaaRepeat
import Derived.Test.YtgkemeclpidmcaaBlend
set_option linter.unusedSimpArgs false
set_option linter.unusedVariables false
namespace Fb
open Go Go.Proofs Go.RowKit Go.Sort
theorem pixs_blk {w : World} {g : Nat} {l : List Px} (h : w.heap[g]? = some (.cells (pxCells l).toArray 42 (0, 0))) : Pixs w (some ⟨g, 0, none⟩) l.length l := by
  refine ⟨rfl, pxCells_len l, fun hn => ⟨g, 0, rfl, (Array.getElem?_eq_some_iff.1 h).1, fun j u hu => ?_⟩⟩
  obtain ⟨h3, h4⟩ := List.getElem?_eq_some_iff.1 hu
  simp [World.cell?, h, h3, h4]
def plainP (W H : Nat) (x : Px) : FPic := ⟨(W : Int), (H : Int), List.replicate (W * H) x⟩
set_option maxRecDepth 100000 in
set_option maxHeartbeats 1000000 in
theorem plain_any (W H : Nat) (x : Px) (w : World) (h1 : 1 ≤ W) (h2 : W ≤ 30) (h3 : 1 ≤ H) (h4 : H ≤ 30) :
    Calls Try.prog 73 #[.int .i64 W, .int .i64 H, .agg #[.int .i64 x.1, .int .i64 x.2]] w (RetPic (plainP W H x) w) := by
  have b1 : 1 * 1 ≤ W * H := Nat.mul_le_mul h1 h3
  have b2 : W * H ≤ 30 * 30 := Nat.mul_le_mul h2 h4
  obtain ⟨N, hN⟩ : ∃ N, W * H = N := ⟨_, rfl⟩
  have hNi : (W : Int) * (H : Int) = (N : Int) := by rw [← hN]; simp
  rw [hN] at b1 b2
  have w1 : IntKind.i64.wrap ((W : Int) * (H : Int)) = (N : Int) := by rw [hNi]; exact IntWalk.i64_in _ (by omega)
  have HN := hid hN
  clear hN hNi
  go_enter Try.func73, Try.ntmps73
  go_wp2_with (go_at_call 83; refine (repeat_any x _ _ N _ ?c1 b1 (by omega)).mono ?_)
  case c1 =>
    refine pixs_blk (l := [x]) ?_
    have h := (MapKept.heap_alloc ((w.alloc (.cells #[.int .i64 x.1, .int .i64 x.2] 42)).alloc (.cells #[.int .i64 0, .int .i64 0, .slice none 0 0] 49)) (.cells #[.int .i64 x.1, .int .i64 x.2] 42)).1
    simpa [pxCells] using h
  rintro e w' ⟨g, rfl, hg, hblk, hb⟩
  have hs := hb.size
  simp only [World.size_alloc] at hg hs
  have hB : Below w.heap.size w w' := bnext ((((Below.refl w.heap.size w).alloc (Nat.le_refl _) _).alloc (by simp) _).alloc (by simp; omega) _) hb
  have c0 := kept_cell (b := w.heap.size + 1) (o := 0) (v := .int .i64 0) hb (by simp) (by go_simp)
  have c1 := kept_cell (b := w.heap.size + 1) (o := 1) (v := .int .i64 0) hb (by simp) (by go_simp)
  have c2 := kept_cell (b := w.heap.size + 1) (o := 2) (v := .slice none 0 0) hb (by simp) (by go_simp)
  have f : ∀ o, w'.frozen? ⟨w.heap.size + 1, o, none⟩ = false := fun o => (hb.frozen (p := ⟨w.heap.size + 1, o, none⟩) (by show w.heap.size + 1 < _; simp)).trans (by go_simp)
  have Hblk := hid hblk
  have Hg := hid hg
  clear hblk hg hb
  go_wp2_with fail
  refine bodyPost_ret (v := .agg #[.int .i64 (W : Int), .int .i64 (H : Int), .slice (some ⟨g, 0, none⟩) N N]) (by simp [results, Try.results73, go_sem, c0, c1, c2, f]) rfl ?_
  have hl : (List.replicate (W * H) x).length = N := by rw [List.length_replicate, HN.out]
  have hP : (plainP W H x).p = List.replicate N x := by show List.replicate (W * H) x = _; rw [HN.out]
  refine ⟨some ⟨g, 0, none⟩, N, ?_, ?_, ?_, ?_⟩
  · show _ = Ending.returned (.agg #[.int .i64 (W : Int), .int .i64 (H : Int), .slice (some ⟨g, 0, none⟩) (plainP W H x).p.length N])
    rw [hP, List.length_replicate]
  · have hg := Hg.out
    rw [hP]
    refine pixs_blk ?_
    have hne : g ≠ w.heap.size + 1 := by omega
    rw [Below.heap_setCell _ _ _ _ hne, Below.heap_setCell _ _ _ _ hne, Below.heap_setCell _ _ _ _ hne]
    exact Hblk.out
  · intro a e; injection e with e; subst e; show w.heap.size ≤ g; have := Hg.out; omega
  · exact ((hB.setCell (by simp) _).setCell (by simp) _).setCell (by simp) _
/-- the same, its pixels' address written out -/
def RetPlain (W H : Int) (x : Px) (w : World) (e : Ending) (w' : World) : Prop := ∃ b off c N : Nat, e = .returned (.agg #[.int .i64 W, .int .i64 H, .slice (some ⟨b, off, none⟩) N c]) ∧ (N : Int) = W * H ∧ 1 ≤ N ∧ N ≤ 64 ∧ w.heap.size ≤ b ∧ b < w'.heap.size ∧ Pixs w' (some ⟨b, off, none⟩) N (List.replicate N x) ∧ Below w.heap.size w w'
theorem plain_int (W H : Int) (x : Px) (w : World) (h1 : 1 ≤ W) (h2 : W ≤ 8) (h3 : 1 ≤ H) (h4 : H ≤ 8) :
    Calls Try.prog 73 #[.int .i64 W, .int .i64 H, .agg #[.int .i64 x.1, .int .i64 x.2]] w (RetPlain W H x w) := by
  obtain ⟨W, rfl⟩ : ∃ k : Nat, W = (k : Int) := ⟨W.toNat, by omega⟩
  obtain ⟨H, rfl⟩ : ∃ k : Nat, H = (k : Int) := ⟨H.toNat, by omega⟩
  have b1 : 1 * 1 ≤ W * H := Nat.mul_le_mul (by omega) (by omega)
  have b2 : W * H ≤ 8 * 8 := Nat.mul_le_mul (by omega) (by omega)
  refine (plain_any W H x w (by omega) (by omega) (by omega) (by omega)).mono ?_
  rintro e w' ⟨A, c, rfl, hp, hn, hb⟩
  have hl : (plainP W H x).p.length = W * H := by show (List.replicate (W * H) x).length = _; rw [List.length_replicate]
  rw [hl] at hp ⊢
  obtain ⟨b, off, rfl, hbl, -⟩ := hp.open_ (by omega)
  exact ⟨b, off, c, W * H, rfl, by simp, by omega, by omega, hn _ rfl, hbl, hp, hb⟩
end Fb
