/- blend.Lay returns what the plain law says. Conditions: a picture and an object that may be. -/
import Derived.Test.YtgkemeclpidmcaaLaid
import Derived.Test.YtgkemeclpidmcaaPlainA
namespace Fb
open Go Go.Proofs Go.RowKit Go.Sort
theorem lay_hidden {p : FPic} {o : FObj} (h : o.shown = false) : layP p o = p := by
  unfold layP
  rw [updL_none (fun j i => by rw [h, Bool.false_and])]
set_option maxRecDepth 100000 in
set_option maxHeartbeats 8000000 in
theorem lay_any (r : FAt FPic) (s : FAt FObj) (w : World) (hr : Pixs w r.A r.n r.x.p) (hs : Pixs w s.A s.n s.x.pic.p) (fr : PicFine r.x) (fo : ObjFine s.x) :
    Calls Try.prog 74 #[.agg #[.int .i64 r.x.w, .int .i64 r.x.h, .slice r.A r.n r.c], .agg #[.int .i64 s.x.id, .int .i64 s.x.x, .int .i64 s.x.y, .int .i64 s.x.pic.w, .int .i64 s.x.pic.h, .slice s.A s.n s.c, .int .i64 s.x.clip.x, .int .i64 s.x.clip.y, .int .i64 s.x.clip.w, .int .i64 s.x.clip.h, .bool s.x.shown]] w (RetPic (layP r.x s.x) w) := by
  obtain ⟨⟨pw, ph, l⟩, A, n, c⟩ := r
  obtain ⟨⟨oid, x, y, ⟨qw, qh, q⟩, ⟨cx, cy, cw, ch⟩, sh⟩, B, m, d⟩ := s
  have fs := fo.2.2
  obtain ⟨-, -, ox1, ox2, oy1, oy2⟩ := fo.1
  obtain ⟨⟨cx1, cx2⟩, ⟨cy1, cy2⟩, ⟨cw1, cw2⟩, ⟨ch1, ch2⟩⟩ := rectFault_bd fo.2.1
  clear fo
  simp only at fs ox1 ox2 oy1 oy2 cx1 cx2 cy1 cy2 cw1 cw2 ch1 ch2
  obtain ⟨f1, f2, f3, f4, -, -⟩ := id fr
  obtain ⟨k1, k2, k3, k4, -, -⟩ := id fs
  simp only at f1 f2 f3 f4 k1 k2 k3 k4
  obtain ⟨P, rfl⟩ : ∃ P : Nat, pw = (P : Int) := ⟨pw.toNat, by omega⟩
  obtain ⟨H, rfl⟩ : ∃ H : Nat, ph = (H : Int) := ⟨ph.toNat, by omega⟩
  obtain ⟨Q, rfl⟩ : ∃ Q : Nat, qw = (Q : Int) := ⟨qw.toNat, by omega⟩
  obtain ⟨K, rfl⟩ : ∃ K : Nat, qh = (K : Int) := ⟨qh.toNat, by omega⟩
  clear f1 f2 f3 f4 k1 k2 k3 k4
  have Hfr := hid fr
  have Hfs := hid fs
  have hln := pic_len fr
  have hlm := pic_len fs
  obtain ⟨r1, r2, r3, r4, r5, -⟩ := fr
  obtain ⟨s1, s2, s3, s4, s5, -⟩ := fs
  simp only at hr hs hln hlm r1 r2 r3 r4 r5 s1 s2 s3 s4 s5
  rw [hr.1] at hln
  rw [hs.1] at hlm
  have Hl := hid hr.1
  have Hq := hid hs.1
  obtain ⟨qb, qo, rfl, hqb, hqc⟩ := hs.open_ (by omega)
  have Hqc := hid hqc
  have R5 := hid r5
  have S5 := hid s5
  clear hs hqc r5 s5
  simp only
  go_enter Try.func74, Try.ntmps74
  go_upto_region 1 with fail
  obtain ⟨W0, hW0⟩ : ∃ W0, W0 = ((w.alloc (.cells #[.int .i64 (P : Int), .int .i64 (H : Int), .slice A n c] 49)).alloc (.cells #[.int .i64 oid, .int .i64 x, .int .i64 y, .int .i64 (Q : Int), .int .i64 (K : Int), .slice (some ⟨qb, qo, none⟩) m d, .int .i64 cx, .int .i64 cy, .int .i64 cw, .int .i64 ch, .bool sh] 89)).alloc (.cells #[.int .i64 0, .int .i64 0, .slice none 0 0] 49) := ⟨_, rfl⟩
  have hB0 : Below w.heap.size w W0 := by
    rw [hW0]; exact (((Below.refl w.heap.size w).alloc (Nat.le_refl _) _).alloc (by simp) _).alloc (by simp; omega) _
  have c0 : W0.cell? ⟨w.heap.size, 0, none⟩ = some (.int .i64 (P : Int)) := by rw [hW0]; go_simp
  have c1 : W0.cell? ⟨w.heap.size, 1, none⟩ = some (.int .i64 (H : Int)) := by rw [hW0]; go_simp
  have c2 : W0.cell? ⟨w.heap.size, 2, none⟩ = some (.slice A n c) := by rw [hW0]; go_simp
  have d1 : W0.cell? ⟨w.heap.size + 1, 1, none⟩ = some (.int .i64 x) := by rw [hW0]; go_simp
  have d2 : W0.cell? ⟨w.heap.size + 1, 2, none⟩ = some (.int .i64 y) := by rw [hW0]; go_simp
  have d3 : W0.cell? ⟨w.heap.size + 1, 3, none⟩ = some (.int .i64 (Q : Int)) := by rw [hW0]; go_simp
  have d4 : W0.cell? ⟨w.heap.size + 1, 4, none⟩ = some (.int .i64 (K : Int)) := by rw [hW0]; go_simp
  have d5 : W0.cell? ⟨w.heap.size + 1, 5, none⟩ = some (.slice (some ⟨qb, qo, none⟩) m d) := by rw [hW0]; go_simp
  have d6 : W0.cell? ⟨w.heap.size + 1, 6, none⟩ = some (.int .i64 cx) := by rw [hW0]; go_simp
  have d7 : W0.cell? ⟨w.heap.size + 1, 7, none⟩ = some (.int .i64 cy) := by rw [hW0]; go_simp
  have d8 : W0.cell? ⟨w.heap.size + 1, 8, none⟩ = some (.int .i64 cw) := by rw [hW0]; go_simp
  have d9 : W0.cell? ⟨w.heap.size + 1, 9, none⟩ = some (.int .i64 ch) := by rw [hW0]; go_simp
  have d10 : W0.cell? ⟨w.heap.size + 1, 10, none⟩ = some (.bool sh) := by rw [hW0]; go_simp
  have e0 : W0.cell? ⟨w.heap.size + 1 + 1, 0, none⟩ = some (.int .i64 0) := by rw [hW0]; go_simp
  have e1 : W0.cell? ⟨w.heap.size + 1 + 1, 1, none⟩ = some (.int .i64 0) := by rw [hW0]; go_simp
  have e2 : W0.cell? ⟨w.heap.size + 1 + 1, 2, none⟩ = some (.slice none 0 0) := by rw [hW0]; go_simp
  have fz : ∀ b o, w.heap.size ≤ b → b < w.heap.size + 3 → W0.frozen? ⟨b, o, none⟩ = false := by
    intro b o h1 h2
    rw [hW0]
    rcases (show b = w.heap.size ∨ b = w.heap.size + 1 ∨ b = w.heap.size + 1 + 1 by omega) with rfl | rfl | rfl <;> go_simp
  have z0 : W0.heap.size = w.heap.size + 3 := by rw [hW0]; simp
  rw [← hW0]
  clear hW0
  go_wp2_with fail
  refine (clonepx_any A n c l _ (hr.below hB0) (by omega)).mono ?_
  rintro e w1 ⟨v, rfl, hown, hb⟩
  obtain ⟨gp, cap, rfl, hgp, hgp2⟩ := hown.form (by omega)
  have hB1 := bnext hB0 hb
  have k0 := held_cell hb (by omega) c0
  have k1 := held_cell hb (by omega) c1
  have k2 := held_cell hb (by omega) c2
  have j1 := held_cell hb (by omega) d1
  have j2 := held_cell hb (by omega) d2
  have j3 := held_cell hb (by omega) d3
  have j4 := held_cell hb (by omega) d4
  have j5 := held_cell hb (by omega) d5
  have j6 := held_cell hb (by omega) d6
  have j7 := held_cell hb (by omega) d7
  have j8 := held_cell hb (by omega) d8
  have j9 := held_cell hb (by omega) d9
  have j10 := held_cell hb (by omega) d10
  have i0 := held_cell hb (by omega) e0
  have i1 := held_cell hb (by omega) e1
  have i2 := held_cell hb (by omega) e2
  have fz1 : ∀ b o, w.heap.size ≤ b → b < w.heap.size + 3 → w1.frozen? ⟨b, o, none⟩ = false := fun b o h1 h2 => (hb.frozen (p := ⟨b, o, none⟩) (by show b < _; omega)).trans (fz b o h1 h2)
  have hz1 := hb.size
  have g2 := fz1 w.heap.size 2 (by omega) (by omega)
  have FZ := hid fz1
  clear fz fz1 c0 c1 c2 d1 d2 d3 d4 d5 d6 d7 d8 d9 d10 e0 e1 e2 hb hB0 hr
  go_upto_region 2 with fail
  obtain ⟨W2, hW2⟩ : ∃ W2, W2 = w1.setCell ⟨w.heap.size, 2, none⟩ (.slice (some ⟨gp, 0, none⟩) n cap) := ⟨_, rfl⟩
  have c0 : W2.cell? ⟨w.heap.size, 0, none⟩ = some (.int .i64 (P : Int)) := by rw [hW2]; go_simp
  have c1 : W2.cell? ⟨w.heap.size, 1, none⟩ = some (.int .i64 (H : Int)) := by rw [hW2]; go_simp
  have c2 : W2.cell? ⟨w.heap.size, 2, none⟩ = some (.slice (some ⟨gp, 0, none⟩) n cap) := by rw [hW2]; go_simp
  have d1 : W2.cell? ⟨w.heap.size + 1, 1, none⟩ = some (.int .i64 x) := by rw [hW2]; go_simp
  have d2 : W2.cell? ⟨w.heap.size + 1, 2, none⟩ = some (.int .i64 y) := by rw [hW2]; go_simp
  have d3 : W2.cell? ⟨w.heap.size + 1, 3, none⟩ = some (.int .i64 (Q : Int)) := by rw [hW2]; go_simp
  have d4 : W2.cell? ⟨w.heap.size + 1, 4, none⟩ = some (.int .i64 (K : Int)) := by rw [hW2]; go_simp
  have d5 : W2.cell? ⟨w.heap.size + 1, 5, none⟩ = some (.slice (some ⟨qb, qo, none⟩) m d) := by rw [hW2]; go_simp
  have d6 : W2.cell? ⟨w.heap.size + 1, 6, none⟩ = some (.int .i64 cx) := by rw [hW2]; go_simp
  have d7 : W2.cell? ⟨w.heap.size + 1, 7, none⟩ = some (.int .i64 cy) := by rw [hW2]; go_simp
  have d8 : W2.cell? ⟨w.heap.size + 1, 8, none⟩ = some (.int .i64 cw) := by rw [hW2]; go_simp
  have d9 : W2.cell? ⟨w.heap.size + 1, 9, none⟩ = some (.int .i64 ch) := by rw [hW2]; go_simp
  have d10 : W2.cell? ⟨w.heap.size + 1, 10, none⟩ = some (.bool sh) := by rw [hW2]; go_simp
  have e0 : W2.cell? ⟨w.heap.size + 1 + 1, 0, none⟩ = some (.int .i64 0) := by rw [hW2]; go_simp
  have e1 : W2.cell? ⟨w.heap.size + 1 + 1, 1, none⟩ = some (.int .i64 0) := by rw [hW2]; go_simp
  have e2 : W2.cell? ⟨w.heap.size + 1 + 1, 2, none⟩ = some (.slice none 0 0) := by rw [hW2]; go_simp
  have hB2 : Below w.heap.size w W2 := by rw [hW2]; exact hB1.setCell (Nat.le_refl _) _
  have z2 : W2.heap.size = w1.heap.size := by rw [hW2]; simp
  have hown2 : W2.ownsRow (w.heap.size + 3) 42 2 (.slice (some ⟨gp, 0, none⟩) n cap) n (pxCells l) := by
    rw [hW2, ← z0]
    exact ownsRow_setCell_below hown (by rw [z0]; show w.heap.size < _; omega) _
  have fz2 : ∀ o, W2.frozen? ⟨w.heap.size + 1 + 1, o, none⟩ = false := by
    intro o; rw [hW2, World.frozen?_setCell]; exact FZ.out _ _ (by omega) (by omega)
  have FZ2 := hid fz2
  clear fz2
  rw [z0] at hgp
  rw [← hW2]
  have hpl : PixAt W2 qb qo q := by have := Hqc.out; exact fun k hk => ⟨(hB2.cell hqb).trans (this k hk).1, (hB2.cell hqb).trans (this k hk).2⟩
  have hgp3 : gp < W2.heap.size := by omega
  have hw2 : w.heap.size + 3 ≤ W2.heap.size := by omega
  clear hW2 k0 k1 k2 j1 j2 j3 j4 j5 j6 j7 j8 j9 j10 i0 i1 i2 hown hB1 g2 hz1 z2 hgp2 z0
  have bd := both_bd ⟨x, y, (Q : Int), (K : Int)⟩ ⟨cx, cy, cw, ch⟩ (by simp; omega) (by simp; omega)
  have hboth := fun W => both_any ⟨x, y, (Q : Int), (K : Int)⟩ ⟨cx, cy, cw, ch⟩ (by simp; omega) (by simp; omega) (by simp; omega) (by simp; omega) (by simp; omega) (by simp; omega) (by simp; omega) (by simp; omega) W
  obtain ⟨R1, hR1⟩ : ∃ R1, both ⟨x, y, (Q : Int), (K : Int)⟩ ⟨cx, cy, cw, ch⟩ = R1 := ⟨_, rfl⟩
  rw [hR1] at bd hboth
  have HR1 := hid hR1
  clear hR1
  have hboth2 := fun W => both_any R1 ⟨0, 0, (P : Int), (H : Int)⟩ (by omega) (by omega) (by omega) (by omega) (by simp) (by simp) (by simp; omega) (by simp; omega) W
  simp only at hboth hboth2
  have HBOTH := hid hboth
  have HBOTH2 := hid hboth2
  clear hboth hboth2
  have Hpl := hid hpl
  have Hown2 := hid hown2
  clear hpl hown2
  cases sh with
  | false =>
    have HO := hid Hown2.out
    have m0 := FZ2.out 0
    have m1 := FZ2.out 1
    have m2 := FZ2.out 2
    have hlen := Hl.out
    have Hchg := hid (lay_hidden (p := ⟨(P : Int), (H : Int), l⟩) (o := ⟨oid, x, y, ⟨(Q : Int), (K : Int), q⟩, ⟨cx, cy, cw, ch⟩, false⟩) rfl)
    clear d1 d2 d3 d4 d5 d6 d7 d8 d9 hqb
    go_wp2_with fail
    refine bodyPost_ret (v := .agg #[.int .i64 (P : Int), .int .i64 (H : Int), .slice (some ⟨gp, 0, none⟩) n cap]) (by simp [results, Try.results74, go_sem, e0, e1, e2]) rfl ?_
    refine ⟨some ⟨gp, 0, none⟩, cap, ?_, ?_, fun a e => by injection e with e; subst e; show w.heap.size ≤ gp; omega, ?_⟩
    · rw [Hchg.out]; simp only; rw [hlen]
    · rw [Hchg.out]; simp only; rw [hlen]
      exact pixs_own (ownsRow_setCell_below (ownsRow_setCell_below (ownsRow_setCell_below HO.out (by show w.heap.size + 1 + 1 < _; omega) _) (by show w.heap.size + 1 + 1 < _; omega) _) (by show w.heap.size + 1 + 1 < _; omega) _) hlen
    · refine Below.setCell (Below.setCell (Below.setCell hB2 ?_ _) ?_ _) ?_ _
      all_goals (show w.heap.size ≤ w.heap.size + 1 + 1; omega)
  | true =>
  go_upto_region 4 with fail
  go_cut [5] (fun t wi => NewRect W2 (both R1 ⟨0, 0, (P : Int), (H : Int)⟩) t wi)
  case first =>
    clear d5 d10 e0 e1 e2 hqb
    (refine wp_region_alloc_last_at 17 5 _ _ (.cells #[.int .i64 0, .int .i64 0, .int .i64 0, .int .i64 0] 87) rfl (by kernel_rfl) (by kernel_rfl) (by kernel_rfl) (by kernel_rfl) rfl (fun a w => by rfl) ?_)
    intro W hW
    have hWs := hW.size
    have F0 := cell_all2 (b := w.heap.size) (by omega) (held_cell hW (by omega) c0)
    have F1 := cell_all2 (b := w.heap.size) (by omega) (held_cell hW (by omega) c1)
    have F2 := cell_all2 (b := w.heap.size) (by omega) (held_cell hW (by omega) c2)
    have F3 := cell_all2 (b := w.heap.size + 1) (by omega) (held_cell hW (by omega) d1)
    have F4 := cell_all2 (b := w.heap.size + 1) (by omega) (held_cell hW (by omega) d2)
    have F5 := cell_all2 (b := w.heap.size + 1) (by omega) (held_cell hW (by omega) d3)
    have F6 := cell_all2 (b := w.heap.size + 1) (by omega) (held_cell hW (by omega) d4)
    have F7 := cell_all2 (b := w.heap.size + 1) (by omega) (held_cell hW (by omega) d6)
    have F8 := cell_all2 (b := w.heap.size + 1) (by omega) (held_cell hW (by omega) d7)
    have F9 := cell_all2 (b := w.heap.size + 1) (by omega) (held_cell hW (by omega) d8)
    have F10 := cell_all2 (b := w.heap.size + 1) (by omega) (held_cell hW (by omega) d9)
    have r1 := fun dd os => Ret.regrown (HBOTH.out (grow (redrawn W dd) os))
    have r2 := fun dd os => Ret.regrown (whole_any ⟨⟨(P : Int), (H : Int), l⟩, some ⟨gp, 0, none⟩, n, cap⟩ (grow (redrawn W dd) os))
    have r3 := fun dd os => Ret.regrown (HBOTH2.out (grow (redrawn W dd) os))
    simp only [List.take_succ_cons, List.take_zero]
    repeat (quiet_step (first | (go_at_call 86; with_reducible exact r2 _ _) | (go_at_call 85; first | with_reducible exact r1 _ _ | with_reducible exact r3 _ _)))
    refine wpQuiet_nil ?_
    intro g w2 hg hblk hb2
    have hb2s := hb2.size
    have hgl := blk_lt hblk
    have k0 := blk_cell (o := 0) hblk rfl
    have k1 := blk_cell (o := 1) hblk rfl
    have k2 := blk_cell (o := 2) hblk rfl
    have k3 := blk_cell (o := 3) hblk rfl
    have kf := blk_free hblk
    clear F0 F1 F2 F3 F4 F5 F6 F7 F8 F9 F10 r1 r2 r3 hblk hW hWs W c0 c1 c2 d1 d2 d3 d4 d6 d7 d8 d9
    go_wp2_with fail
    go_meet
    refine ⟨g, rfl, hg, ⟨by simp; omega, ?_, ?_, ?_, ?_⟩, ?_⟩
    · go_simp
    · go_simp
    · go_simp
    · go_simp
    · exact (((hb2.setCell hg _).setCell hg _).setCell hg _).setCell hg _
  case rest =>
    obtain ⟨gr, rfl, hgr, hrect, hbw⟩ := hcut
    have A := both_area (pw := (P : Int)) (ph := (H : Int)) (Q := R1) (by omega) (by omega) (by omega) (by omega)
    rw [Int.toNat_natCast, Int.toNat_natCast] at A
    rw [both_comm] at hrect
    obtain ⟨R, hR⟩ : ∃ R, both ⟨0, 0, (P : Int), (H : Int)⟩ R1 = R := ⟨_, rfl⟩
    rw [hR] at A hrect
    clear hR HBOTH HBOTH2 bd
    obtain ⟨cc, hcc⟩ : ∃ cc, (fun j i => true && (onB ⟨cx, cy, cw, ch⟩ j i && onB ⟨x, y, (Q : Int), (K : Int)⟩ j i)) = cc := ⟨_, rfl⟩
    have hcc2 : onB R1 = cc := by
      rw [← hcc, ← HR1.out]
      funext j i
      unfold onB
      rw [both_has, Bool.true_and, Bool.and_comm]
    rw [hcc2] at A
    clear hcc2
    have Hcc := hid hcc
    clear hcc
    obtain ⟨vv, hvv⟩ : ∃ vv : Nat → Nat → Px, (fun j i => overP (srcP ⟨(Q : Int), (K : Int), q⟩ x y j i) (l.getD (j * P + i) (0, 0))) = vv := ⟨_, rfl⟩
    have Hvv := hid hvv
    clear hvv
    have hnPH : n = P * H := by
      have h1 := R5.out
      have h2 := Hl.out
      have h3 : ((l.length : Nat) : Int) = ((P * H : Nat) : Int) := by rw [h1]; simp
      omega
    have HnPH := hid hnPH
    have Hlen := hid (Hl.out.trans hnPH)
    clear hnPH
    have hP : 0 < P := by omega
    have hxw := A.xw
    have hyh := A.yh
    have hx0 := A.x0
    have hy0 := A.y0
    have hw0 := A.w0
    have hh0 := A.h0
    have HA := hid A
    clear A
    have hzc := hbw.size
    obtain ⟨hr0, hrx, hry, hrw, hrh⟩ := hrect
    have b0 := held_cell hbw (by omega) c0
    have b1 := held_cell hbw (by omega) c1
    have b2 := held_cell hbw (by omega) c2
    have q1 := held_cell hbw (by omega) d1
    have q2 := held_cell hbw (by omega) d2
    have q3 := held_cell hbw (by omega) d3
    have q5 := held_cell hbw (by omega) d5
    have u0 := held_cell hbw (by omega) e0
    have u1 := held_cell hbw (by omega) e1
    have u2 := held_cell hbw (by omega) e2
    have FZ3 := hid (fun o => (hbw.frozen (p := ⟨w.heap.size + 1 + 1, o, none⟩) (by show w.heap.size + 1 + 1 < W2.heap.size; omega)).trans (FZ2.out o))
    have hown3 := own_keep Hown2.out hbw
    have Hpx := hid (fun k hk => (And.intro (held_cell hbw (by omega) (Hpl.out k hk).1) (held_cell hbw (by omega) (Hpl.out k hk).2)))
    have hB3 := bnext hB2 hbw
    have hgz : gp < wc.heap.size := by omega
    clear c0 c1 c2 d1 d2 d3 d4 d5 d6 d7 d8 d9 d10 e0 e1 e2 hbw hB2
    go_wp2_with fail
    go_loopw [6] (fun jv wr => ∃ j : Nat, jv = .int .i64 j ∧ R.y ≤ j ∧ (j : Int) ≤ R.y + R.h ∧ wr.ownsRow (w.heap.size + 3) 42 2 (.slice (some ⟨gp, 0, none⟩) n cap) n (pxCells (upd P l cc vv j 0)) ∧ wc.grownBy wr (some gp)) (fun jv _ => (R.y + R.h - intOf jv).toNat)
    case atStart =>
      refine ⟨R.y.toNat, by congr 1; omega, by omega, by omega, ?_, gb_refl _ _⟩
      rw [upd_start HA.out hP Hlen.out (by omega)]
      exact hown3
    case round =>
      clear hown3
      obtain ⟨j, rfl, hj1, hj2, hown, hgb⟩ := hrel
      have y1 := gb_cell hgb (b := gr) (by omega) (by omega) hry
      have y2 := gb_cell hgb (b := gr) (by omega) (by omega) hrh
      have y3 := gb_cell hgb (b := gr) (by omega) (by omega) hrx
      by_cases hj : (j : Int) < R.y + R.h
      · go_wp2_with fail
        obtain ⟨wo, rfl⟩ : ∃ wo : World, wo = wr := ⟨_, rfl⟩
        go_loopw [7] (fun iv wr => ∃ i : Nat, iv = .int .i64 i ∧ R.x ≤ i ∧ (i : Int) ≤ R.x + R.w ∧ wr.ownsRow (w.heap.size + 3) 42 2 (.slice (some ⟨gp, 0, none⟩) n cap) n (pxCells (upd P l cc vv j i)) ∧ wc.grownBy wr (some gp)) (fun iv _ => (R.x + R.w - intOf iv).toNat)
        case atStart =>
          refine ⟨R.x.toNat, by congr 1; omega, by omega, by omega, ?_, hgb⟩
          rw [← upd_row HA.out hP Hlen.out (by omega)]
          exact hown
        case round =>
          clear hown hgb y1 y2 y3
          obtain ⟨i, rfl, hi1, hi2, hown, hgb⟩ := hrel
          have y3 := gb_cell hgb (b := gr) (by omega) (by omega) hrx
          have y4 := gb_cell hgb (b := gr) (by omega) (by omega) hrw
          by_cases hi : (i : Int) < R.x + R.w
          · have hjH : j < H := by omega
            have hiP : i < P := by omega
            have hcj : cc j i = true := by rw [HA.out.has j i hjH hiP]; exact has_iff.2 (by omega)
            have hob : onB ⟨x, y, (Q : Int), (K : Int)⟩ j i = true := by
              have h := hcj
              rw [← Hcc.out] at h
              simp at h
              exact h.2
            have hKn := at_lt hjH hiP
            have hsrc := src_lt (q := ⟨(Q : Int), (K : Int), q⟩) (x := x) (y := y) (j := j) (i := i) Hfs.out hob
            have hon := has_iff.1 hob
            clear hob
            simp only at hsrc hon
            have hread := upd_at (c := cc) (v := vv) Hlen.out hjH hiP
            have hstep := upd_step (c := cc) (v := vv) Hlen.out hjH hiP hcj
            have hvv : vv j i = overP (srcP ⟨(Q : Int), (K : Int), q⟩ x y j i) (l.getD (j * P + i) (0, 0)) := by rw [← Hvv.out]
            unfold srcP at hvv
            simp only at hvv
            obtain ⟨KK, hKK⟩ : ∃ KK, j * P + i = KK := ⟨_, rfl⟩
            obtain ⟨JP, hJP⟩ : ∃ JP, j * P = JP := ⟨_, rfl⟩
            obtain ⟨SS, hSS⟩ : ∃ SS : Nat, ((j : Int) - y) * (Q : Int) + (i : Int) - x = (SS : Int) := ⟨(((j : Int) - y) * (Q : Int) + (i : Int) - x).toNat, by omega⟩
            obtain ⟨M1, hM1⟩ : ∃ M1 : Int, (j : Int) - y = M1 := ⟨_, rfl⟩
            obtain ⟨M2, hM2⟩ : ∃ M2 : Int, M1 * (Q : Int) = M2 := ⟨_, rfl⟩
            have hJPi : (j : Int) * (P : Int) = (JP : Int) := by rw [← hJP]; simp
            have hM1b : 0 ≤ M1 ∧ M1 ≤ 8 := by omega
            have hM2b : 0 ≤ M2 ∧ M2 ≤ 64 := by
              have t1 : 0 ≤ M1 * (Q : Int) := Int.mul_nonneg hM1b.1 (by omega)
              have t2 : M1 * (Q : Int) ≤ 8 * 8 := Int.mul_le_mul hM1b.2 (by omega) (by omega) (by omega)
              omega
            rw [hSS] at hsrc hvv
            rw [hM1, hM2] at hSS
            rw [hKK] at hKn hread hstep hvv
            rw [Int.toNat_natCast] at hvv
            have hKl : KK < l.length := by rw [Hlen.out]; exact hKn
            have hSl : SS < q.length := by omega
            rw [List.getD_eq_getElem?_getD, List.getElem?_eq_getElem hSl, List.getD_eq_getElem?_getD, List.getElem?_eq_getElem hKl, Option.getD_some, Option.getD_some] at hvv
            rw [List.getElem?_eq_getElem hKl] at hread
            obtain ⟨p0, p1⟩ := own_px hown hread
            obtain ⟨s0, s1⟩ := Hpx.out SS hSl
            have f1 := Hfr.out.2.2.2.2.2 l[KK] (List.getElem_mem hKl)
            have f2 := Hfs.out.2.2.2.2.2 q[SS] (List.getElem_mem hSl)
            generalize l[KK] = pa at *
            generalize q[SS] = pb at *
            have Hvj := hid hvv
            have Hstep := hid hstep
            have Hcall := hid (fun W => over_any pb.1 pb.2 pa.1 pa.2 ⟨f2.1, f2.2.1⟩ ⟨f2.2.2.1, f2.2.2.2⟩ ⟨f1.1, f1.2.1⟩ ⟨f1.2.2.1, f1.2.2.2⟩ W)
            have hKKn : KK < n := by rw [HnPH.out]; exact hKn
            have hSm : SS < m := by rw [← Hq.out]; exact hSl
            have w1 : IntKind.i64.wrap ((j : Int) * (P : Int)) = (JP : Int) := by rw [hJPi]; exact IntWalk.i64_in _ (by omega)
            have w2 : IntKind.i64.wrap ((JP : Int) + (i : Int)) = (KK : Int) := by rw [show (JP : Int) + (i : Int) = (KK : Int) by omega]; exact IntWalk.i64_in _ (by omega)
            have w3 : IntKind.i64.wrap ((j : Int) - y) = M1 := by rw [hM1]; exact IntWalk.i64_in _ (by omega)
            have w4 : IntKind.i64.wrap (M1 * (Q : Int)) = M2 := by rw [hM2]; exact IntWalk.i64_in _ (by omega)
            have w5 : IntKind.i64.wrap (M2 + (i : Int)) = M2 + (i : Int) := IntWalk.i64_in _ (by omega)
            have w6 : IntKind.i64.wrap (M2 + (i : Int) - x) = (SS : Int) := by rw [hSS]; exact IntWalk.i64_in _ (by omega)
            have x1 : (0 : Int) ≤ (KK : Int) := by omega
            have x2 : (KK : Int) < (n : Int) := by omega
            have x3 : (0 : Int) ≤ (SS : Int) := by omega
            have x4 : (SS : Int) < (m : Int) := by omega
            have z1 := gb_cell hgb (b := w.heap.size) (by omega) (by omega) b0
            have z2 := gb_cell hgb (b := w.heap.size) (by omega) (by omega) b2
            have z3 := gb_cell hgb (b := w.heap.size + 1) (by omega) (by omega) q3
            have z4 := gb_cell hgb (b := w.heap.size + 1) (by omega) (by omega) q5
            have z7 := gb_cell hgb (b := w.heap.size + 1) (by omega) (by omega) q1
            have z8 := gb_cell hgb (b := w.heap.size + 1) (by omega) (by omega) q2
            have z5 := gb_cell hgb (b := qb) (by omega) (by omega) s0
            have z6 := gb_cell hgb (b := qb) (by omega) (by omega) s1
            have hws := hgb.size
            have hgw : gp < wr.heap.size := by omega
            have fz0 := hown.frozenAt (KK * 2)
            have fz1 := hown.frozenAt (KK * 2 + 1)
            have ne0 : ¬ w.heap.size = gp := by omega
            have ne1 : ¬ w.heap.size + 1 = gp := by omega
            have ne2 : ¬ qb = gp := by omega
            have ne3 : ¬ gp = w.heap.size := by omega
            have ne4 : ¬ gp = w.heap.size + 1 := by omega
            have ne5 : ¬ gp = qb := by omega
            have Hown := hid hown
            go_upto_region 12 with fail
            clear hvv hstep hread hsrc hon hcj hKn hKK hJP hM1 hM2 hJPi hSS hKl hSl s0 s1 f1 f2 y3 y4 hrx hry hrw hrh b0 b1 b2 q1 q2 q3 q5 u0 u1 u2 hown hM1b hM2b
            have F1 := cell_all2 (b := w.heap.size) (by omega) z1
            have F2 := cell_all2 (b := w.heap.size) (by omega) z2
            have F3 := cell_all2 (b := w.heap.size + 1) (by omega) z3
            have F4 := cell_all2 (b := w.heap.size + 1) (by omega) z4
            have F5 := cell_all2 (b := qb) (by omega) z5
            have F6 := cell_all2 (b := qb) (by omega) z6
            have F7 := cell_all2 hgw p0
            have F8 := cell_all2 hgw p1
            have F9 := cell_all2 (b := w.heap.size + 1) (by omega) z7
            have F10 := cell_all2 (b := w.heap.size + 1) (by omega) z8
            have r1 := fun dd os => Ret.regrown (Hcall.out (grow (redrawn wr dd) os))
            clear z1 z2 z3 z4 z5 z6 z7 z8
            (refine wp_region_last_at 28 _ rfl (by kernel_rfl) (by kernel_rfl) (by kernel_rfl) ?_; simp only [List.take_succ_cons, List.take_zero])
            repeat (quiet_step (first | exact r1 _ _))
            (refine wpQuiet_nil ?_; intro _ hw'; obtain ⟨⟨dq, osq⟩, hw''⟩ := hw'; subst hw'')
            have hb3 := below_regrown wr dq osq
            have hown3 := own_keep Hown.out hb3
            have hgb3 := gb_below hgb hb3
            have n7 := F7 dq osq
            have n8 := F8 dq osq
            have n9 := (hb3.frozen (p := ⟨gp, KK * 2, none⟩) hgw).trans fz0
            have n10 := (hb3.frozen (p := ⟨gp, KK * 2 + 1, none⟩) hgw).trans fz1
            clear F1 F2 F3 F4 F5 F6 F7 F8 F9 F10 r1 hb3 fz0 fz1 p0 p1 hgb w1 w2 w3 w4 w5 w6
            generalize grow (redrawn wr dq) osq = w9 at *
            have hset := own_set hown3 KK (overP pb pa)
            rw [← Hvj.out, Hstep.out, Hvj.out] at hset
            have Hset := hid hset
            clear hset
            go_wp2_with fail
            go_roundw
            case rel => exact ⟨i + 1, by go_num, by omega, by omega, Hset.out, gb_set (gb_set hgb3 _ _) _ _⟩
            case measure => simp [intOf]; omega
          · have Hown := hid (upd_end (v := vv) HA.out hP Hlen.out (j := j) (i := i) (by omega))
            rw [Hown.out] at hown
            have Hj := hid (show R.y ≤ ((j + 1 : Nat) : Int) ∧ ((j + 1 : Nat) : Int) ≤ R.y + R.h by omega)
            go_wp2_with fail
            go_roundw
            case rel => exact ⟨j + 1, by go_num, Hj.out.1, Hj.out.2, hown, hgb⟩
            case measure => simp [intOf]; omega
      · have Hfin := hid (upd_done (v := vv) HA.out hP Hlen.out (j := j) (by omega))
        rw [Hfin.out] at hown
        have m0 := gb_cell hgb (b := w.heap.size) (by omega) (by omega) b0
        have m1 := gb_cell hgb (b := w.heap.size) (by omega) (by omega) b1
        have m2 := gb_cell hgb (b := w.heap.size) (by omega) (by omega) b2
        have m3 := gb_cell hgb (b := w.heap.size + 1 + 1) (by omega) (by omega) u0
        have m4 := gb_cell hgb (b := w.heap.size + 1 + 1) (by omega) (by omega) u1
        have m5 := gb_cell hgb (b := w.heap.size + 1 + 1) (by omega) (by omega) u2
        have m6 := gb_frozen hgb (b := w.heap.size + 1 + 1) (o := 0) (by omega) (by omega) (FZ3.out 0)
        have m7 := gb_frozen hgb (b := w.heap.size + 1 + 1) (o := 1) (by omega) (by omega) (FZ3.out 1)
        have m8 := gb_frozen hgb (b := w.heap.size + 1 + 1) (o := 2) (by omega) (by omega) (FZ3.out 2)
        clear y3 hrx hry hrw hrh b0 b1 b2 q1 q2 q3 q5 u0 u1 u2
        have Hchg := hid (lay_eq (l := l) (q := q) (x := x) (y := y) (P := P) (H := H) (Q := Q) (K := K) (id' := oid) Hcc.out Hvv.out)
        have hlen := (show (updL P l cc vv).length = n by rw [updL_len]; exact Hl.out)
        have hkept := hgb
        have hB4 := hB3
        have HH := hid hown
        go_wp2_with fail
        refine bodyPost_ret (v := .agg #[.int .i64 (P : Int), .int .i64 (H : Int), .slice (some ⟨gp, 0, none⟩) n cap]) (by simp [results, Try.results74, go_sem, m3, m4, m5]) rfl ?_
        refine ⟨some ⟨gp, 0, none⟩, cap, ?_, ?_, fun a e => by injection e with e; subst e; show w.heap.size ≤ gp; omega, ?_⟩
        · rw [Hchg.out]; simp only; rw [hlen]
        · rw [Hchg.out]; simp only; rw [hlen]
          exact pixs_own (ownsRow_setCell_below (ownsRow_setCell_below (ownsRow_setCell_below HH.out (by show w.heap.size + 1 + 1 < _; omega) _) (by show w.heap.size + 1 + 1 < _; omega) _) (by show w.heap.size + 1 + 1 < _; omega) _) hlen
        · refine Below.setCell (Below.setCell (Below.setCell ?_ ?_ _) ?_ _) ?_ _
          · exact below_grown hB4 hkept (by have := hB4.size; omega) (by omega)
          all_goals (show w.heap.size ≤ w.heap.size + 1 + 1; omega)
end Fb
