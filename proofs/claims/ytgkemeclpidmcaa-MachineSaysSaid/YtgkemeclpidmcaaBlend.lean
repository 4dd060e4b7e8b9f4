/- blend.change, Add and Put return what the plain laws say. Conditions: pictures that may be, places not too far. -/
import Derived.Test.YtgkemeclpidmcaaWalksA
import Derived.Test.YtgkemeclpidmcaaPlainA
import Derived.Deep.RegionHeld3
import Derived.OneCell
import Derived.Deep.CutBlock
import Derived.Deep.DeepCutAuto
namespace Fb
open Go Go.Proofs Go.RowKit Go.Sort
/-- the call returns a picture in new memory -/
def RetPic (x : FPic) (w : World) (e : Ending) (w' : World) : Prop := ∃ (A : Option Addr) (c : Nat), e = .returned (.agg #[.int .i64 x.w, .int .i64 x.h, .slice A x.p.length c]) ∧ Pixs w' A x.p.length x.p ∧ (∀ a, A = some a → w.heap.size ≤ a.block) ∧ Below w.heap.size w w'
theorem pic_len {p : FPic} (h : PicFine p) : 1 ≤ p.p.length ∧ p.p.length ≤ 64 := by
  obtain ⟨h1, h2, h3, h4, h5, -⟩ := h
  have a1 : 1 * 1 ≤ p.w * p.h := Int.mul_le_mul h1 h3 (by omega) (by omega)
  have a2 : p.w * p.h ≤ 8 * 8 := Int.mul_le_mul h2 h4 (by omega) (by omega)
  omega
theorem cell_all2 {w : World} {b o : Nat} {v : Value} (hb : b < w.heap.size) (h : w.cell? ⟨b, o, none⟩ = some v) (d : Nat) (os : Array Go.Obj) : (grow (redrawn w d) os).cell? ⟨b, o, none⟩ = some v := ((below_regrown w d os).cell (p := ⟨b, o, none⟩) hb).trans h
/-- cells and marks of an old block, in one fact -/
theorem held_cell {w w' : World} {B : Nat} (hb : Below B w w') {b o : Nat} {v : Value} (h : b < B) (hc : w.cell? ⟨b, o, none⟩ = some v) : w'.cell? ⟨b, o, none⟩ = some v := (hb.cell (p := ⟨b, o, none⟩) h).trans hc
/-- the rect r lies in a new block, that slot t points to -/
def NewRect (W : World) (r : FRect) (t : Value) (wi : World) : Prop := ∃ gr, t = .pointer (some ⟨gr, 0, none⟩) ∧ W.heap.size ≤ gr ∧ RectAt wi gr r ∧ Below W.heap.size W wi
theorem below_grown {a w w' : World} {B g : Nat} (h : Below B a w) (hg : w.grownBy w' (some g)) (hB : B ≤ w.heap.size) (hb : B ≤ g) : Below B a w' :=
  ⟨hg.os.trans h.os, hg.tape.trans h.tape, hg.output.trans h.output, Nat.le_trans h.size hg.size, fun k hk => (hg.block k (by omega) (by intro e; injection e; omega)).trans (h.block k hk)⟩
theorem change_eq {g : Px → Px → Px} {l q : List Px} {P H Q K : Nat} {x y : Int} {cc : Nat → Nat → Bool} {vv : Nat → Nat → Px} (hc : onB ⟨x, y, (Q : Int), (K : Int)⟩ = cc)
    (hv : (fun j i => g (l.getD (j * P + i) (0, 0)) (srcP ⟨(Q : Int), (K : Int), q⟩ x y j i)) = vv) : changeP g ⟨(P : Int), (H : Int), l⟩ ⟨(Q : Int), (K : Int), q⟩ x y = ⟨(P : Int), (H : Int), updL P l cc vv⟩ := by
  subst hc hv
  unfold changeP
  simp
set_option maxRecDepth 100000 in
set_option maxHeartbeats 4000000 in
theorem change_any (N : FuncId) (g : Px → Px → Px) (hcf : ∀ args W, (callFunc N args).run Try.prog W = .ok (.enter N args) W) (hg : ∀ a b, PxFine a → PxFine b → PxFine (g a b))
    (hN : ∀ a b W, PxFine a → PxFine b → Calls Try.prog N #[.agg #[.int .i64 a.1, .int .i64 a.2], .agg #[.int .i64 b.1, .int .i64 b.2]] W (Ret (.agg #[.int .i64 (g a b).1, .int .i64 (g a b).2]) W))
    (r s : FAt FPic) (x y : Int) (w : World) (hr : Pixs w r.A r.n r.x.p) (hs : Pixs w s.A s.n s.x.p) (fr : PicFine r.x) (fs : PicFine s.x) (bx : -100 ≤ x ∧ x ≤ 100) (b_y : -100 ≤ y ∧ y ≤ 100) :
    Calls Try.prog 77 #[.agg #[.int .i64 r.x.w, .int .i64 r.x.h, .slice r.A r.n r.c], .agg #[.int .i64 s.x.w, .int .i64 s.x.h, .slice s.A s.n s.c], .int .i64 x, .int .i64 y, .func (.func N) #[] #[]] w (RetPic (changeP g r.x s.x x y) w) := by
  obtain ⟨⟨pw, ph, l⟩, A, n, c⟩ := r
  obtain ⟨⟨qw, qh, q⟩, B, m, d⟩ := s
  obtain ⟨f1, f2, f3, f4, -, -⟩ := id fr
  obtain ⟨k1, k2, k3, k4, -, -⟩ := id fs
  simp only at f1 f2 f3 f4 k1 k2 k3 k4
  obtain ⟨P, rfl⟩ : ∃ P : Nat, pw = (P : Int) := ⟨pw.toNat, by omega⟩
  obtain ⟨H, rfl⟩ : ∃ H : Nat, ph = (H : Int) := ⟨ph.toNat, by omega⟩
  obtain ⟨Q, rfl⟩ : ∃ Q : Nat, qw = (Q : Int) := ⟨qw.toNat, by omega⟩
  obtain ⟨K, rfl⟩ : ∃ K : Nat, qh = (K : Int) := ⟨qh.toNat, by omega⟩
  clear f1 f2 f3 f4 k1 k2 k3 k4
  have Hcf := hid hcf
  clear hcf
  have Hg := hid hg
  have HN := hid hN
  have Hfr := hid fr
  have Hfs := hid fs
  have hln := pic_len fr
  have hlm := pic_len fs
  obtain ⟨r1, r2, r3, r4, r5, -⟩ := fr
  obtain ⟨s1, s2, s3, s4, s5, -⟩ := fs
  simp only at hr hs hln hlm r1 r2 r3 r4 r5 s1 s2 s3 s4 s5
  rw [hr.1] at hln
  rw [hs.1] at hlm
  have Hl := hid hr.1
  have Hq := hid hs.1
  obtain ⟨qb, qo, rfl, hqb, hqc⟩ := hs.open_ (by omega)
  have Hqc := hid hqc
  have R5 := hid r5
  have S5 := hid s5
  clear hg hN hs hqc r5 s5
  simp only
  go_enter Try.func77, Try.ntmps77
  go_upto_region 1 with fail
  obtain ⟨W0, hW0⟩ : ∃ W0, W0 = ((w.alloc (.cells #[.int .i64 (P : Int), .int .i64 (H : Int), .slice A n c] 49)).alloc (.cells #[.int .i64 (Q : Int), .int .i64 (K : Int), .slice (some ⟨qb, qo, none⟩) m d] 49)).alloc (.cells #[.int .i64 0, .int .i64 0, .slice none 0 0] 49) := ⟨_, rfl⟩
  have hB0 : Below w.heap.size w W0 := by
    rw [hW0]; exact (((Below.refl w.heap.size w).alloc (Nat.le_refl _) _).alloc (by simp) _).alloc (by simp; omega) _
  have c0 : W0.cell? ⟨w.heap.size, 0, none⟩ = some (.int .i64 (P : Int)) := by rw [hW0]; go_simp
  have c1 : W0.cell? ⟨w.heap.size, 1, none⟩ = some (.int .i64 (H : Int)) := by rw [hW0]; go_simp
  have c2 : W0.cell? ⟨w.heap.size, 2, none⟩ = some (.slice A n c) := by rw [hW0]; go_simp
  have d0 : W0.cell? ⟨w.heap.size + 1, 0, none⟩ = some (.int .i64 (Q : Int)) := by rw [hW0]; go_simp
  have d1 : W0.cell? ⟨w.heap.size + 1, 1, none⟩ = some (.int .i64 (K : Int)) := by rw [hW0]; go_simp
  have d2 : W0.cell? ⟨w.heap.size + 1, 2, none⟩ = some (.slice (some ⟨qb, qo, none⟩) m d) := by rw [hW0]; go_simp
  have e0 : W0.cell? ⟨w.heap.size + 1 + 1, 0, none⟩ = some (.int .i64 0) := by rw [hW0]; go_simp
  have e1 : W0.cell? ⟨w.heap.size + 1 + 1, 1, none⟩ = some (.int .i64 0) := by rw [hW0]; go_simp
  have e2 : W0.cell? ⟨w.heap.size + 1 + 1, 2, none⟩ = some (.slice none 0 0) := by rw [hW0]; go_simp
  have fz : ∀ b o, w.heap.size ≤ b → b < w.heap.size + 3 → W0.frozen? ⟨b, o, none⟩ = false := by
    intro b o h1 h2
    rw [hW0]
    rcases (show b = w.heap.size ∨ b = w.heap.size + 1 ∨ b = w.heap.size + 1 + 1 by omega) with rfl | rfl | rfl <;> go_simp
  have z0 : W0.heap.size = w.heap.size + 3 := by rw [hW0]; simp
  rw [← hW0]
  clear hW0
  go_wp2_with fail
  refine (clonepx_any A n c l _ (hr.below hB0) (by omega)).mono ?_
  rintro e w1 ⟨v, rfl, hown, hb⟩
  obtain ⟨gp, cap, rfl, hgp, hgp2⟩ := hown.form (by omega)
  have hB1 := bnext hB0 hb
  have k0 := held_cell hb (by omega) c0
  have k1 := held_cell hb (by omega) c1
  have k2 := held_cell hb (by omega) c2
  have j0 := held_cell hb (by omega) d0
  have j1 := held_cell hb (by omega) d1
  have j2 := held_cell hb (by omega) d2
  have i0 := held_cell hb (by omega) e0
  have i1 := held_cell hb (by omega) e1
  have i2 := held_cell hb (by omega) e2
  have fz1 : ∀ b o, w.heap.size ≤ b → b < w.heap.size + 3 → w1.frozen? ⟨b, o, none⟩ = false := fun b o h1 h2 => (hb.frozen (p := ⟨b, o, none⟩) (by show b < _; omega)).trans (fz b o h1 h2)
  have hz1 := hb.size
  have g2 := fz1 w.heap.size 2 (by omega) (by omega)
  have FZ := hid fz1
  clear fz fz1 c0 c1 c2 d0 d1 d2 e0 e1 e2 hb hB0 hr
  go_upto_region 2 with fail
  obtain ⟨W2, hW2⟩ : ∃ W2, W2 = w1.setCell ⟨w.heap.size, 2, none⟩ (.slice (some ⟨gp, 0, none⟩) n cap) := ⟨_, rfl⟩
  have c0 : W2.cell? ⟨w.heap.size, 0, none⟩ = some (.int .i64 (P : Int)) := by rw [hW2]; go_simp
  have c1 : W2.cell? ⟨w.heap.size, 1, none⟩ = some (.int .i64 (H : Int)) := by rw [hW2]; go_simp
  have c2 : W2.cell? ⟨w.heap.size, 2, none⟩ = some (.slice (some ⟨gp, 0, none⟩) n cap) := by rw [hW2]; go_simp
  have d0 : W2.cell? ⟨w.heap.size + 1, 0, none⟩ = some (.int .i64 (Q : Int)) := by rw [hW2]; go_simp
  have d1 : W2.cell? ⟨w.heap.size + 1, 1, none⟩ = some (.int .i64 (K : Int)) := by rw [hW2]; go_simp
  have d2 : W2.cell? ⟨w.heap.size + 1, 2, none⟩ = some (.slice (some ⟨qb, qo, none⟩) m d) := by rw [hW2]; go_simp
  have e0 : W2.cell? ⟨w.heap.size + 1 + 1, 0, none⟩ = some (.int .i64 0) := by rw [hW2]; go_simp
  have e1 : W2.cell? ⟨w.heap.size + 1 + 1, 1, none⟩ = some (.int .i64 0) := by rw [hW2]; go_simp
  have e2 : W2.cell? ⟨w.heap.size + 1 + 1, 2, none⟩ = some (.slice none 0 0) := by rw [hW2]; go_simp
  have hB2 : Below w.heap.size w W2 := by rw [hW2]; exact hB1.setCell (Nat.le_refl _) _
  have z2 : W2.heap.size = w1.heap.size := by rw [hW2]; simp
  have hown2 : W2.ownsRow (w.heap.size + 3) 42 2 (.slice (some ⟨gp, 0, none⟩) n cap) n (pxCells l) := by
    rw [hW2, ← z0]
    exact ownsRow_setCell_below hown (by rw [z0]; show w.heap.size < _; omega) _
  have fz2 : ∀ o, W2.frozen? ⟨w.heap.size + 1 + 1, o, none⟩ = false := by
    intro o; rw [hW2, World.frozen?_setCell]; exact FZ.out _ _ (by omega) (by omega)
  have FZ2 := hid fz2
  clear fz2
  rw [z0] at hgp
  rw [← hW2]
  have hpl : PixAt W2 qb qo q := by have := Hqc.out; exact fun k hk => ⟨(hB2.cell hqb).trans (this k hk).1, (hB2.cell hqb).trans (this k hk).2⟩
  have hgp3 : gp < W2.heap.size := by omega
  have hw2 : w.heap.size + 3 ≤ W2.heap.size := by omega
  clear hW2 k0 k1 k2 j0 j1 j2 i0 i1 i2 hown hB1 g2 hz1 z2 hgp2 z0
  have hboth := fun W => both_any ⟨0, 0, (P : Int), (H : Int)⟩ ⟨x, y, (Q : Int), (K : Int)⟩ (by simp) (by simp) (by simp; omega) (by simp; omega) (by simp; omega) (by simp; omega) (by simp; omega) (by simp; omega) W
  have HBOTH := hid hboth
  have Hpl := hid hpl
  have Hown2 := hid hown2
  clear hboth hpl hown2
  go_upto_region 3 with fail
  go_cut [11] (fun t wi => NewRect W2 (both ⟨0, 0, (P : Int), (H : Int)⟩ ⟨x, y, (Q : Int), (K : Int)⟩) t wi)
  case first =>
    clear d2 e0 e1 e2 hqb
    have ne0 : ¬ w.heap.size = W2.heap.size := by omega
    have ne1 : ¬ w.heap.size + 1 = W2.heap.size := by omega
    have ne2 : ¬ W2.heap.size = w.heap.size := by omega
    have ne3 : ¬ W2.heap.size = w.heap.size + 1 := by omega
    have HBW := Below.refl W2.heap.size W2
    go_region_held3 (fun w' => w'.cell? ⟨w.heap.size, 0, none⟩ = some (.int .i64 (P : Int)) ∧ w'.cell? ⟨w.heap.size, 1, none⟩ = some (.int .i64 (H : Int)) ∧ w'.cell? ⟨w.heap.size, 2, none⟩ = some (.slice (some ⟨gp, 0, none⟩) n cap) ∧ w'.cell? ⟨w.heap.size + 1, 0, none⟩ = some (.int .i64 (Q : Int)) ∧ w'.cell? ⟨w.heap.size + 1, 1, none⟩ = some (.int .i64 (K : Int))) (first | exact ⟨n0, n1, n2, n3, n4⟩ | go_keep)
      (first | (go_at_call 86; refine (whole_any ⟨⟨(P : Int), (H : Int), l⟩, some ⟨gp, 0, none⟩, n, cap⟩ _).mono ?_; rintro e w' ⟨rfl, hbw⟩; have hbz := hbw.size; (try simp at hbz); have HBW : Below W2.heap.size W2 w' := bnext (by have hB := HBW; ((repeat (first | with_reducible exact hB | with_reducible refine Below.alloc ?_ (by have := hB.size; simp; try omega) _ | with_reducible refine Below.setCell ?_ (by have := hB.size; simp; try omega) _ | with_reducible refine below_drewN ?_ _ | with_reducible refine Below.drew ?_)))) hbw; obtain ⟨hbc, hbf⟩ := bcell hbw; (try (have lt2 : W2.heap.size < w'.heap.size := (by omega))); have ne0 : ¬ w.heap.size = w'.heap.size := (by omega); have ne1 : ¬ w.heap.size + 1 = w'.heap.size := (by omega); have ne2 : ¬ w'.heap.size = w.heap.size := (by omega); have ne3 : ¬ w'.heap.size = w.heap.size + 1 := (by omega); have n0 := held_cell (b := w.heap.size) (o := 0) (v := .int .i64 (P : Int)) hbw (by first | omega | (simp; omega)) (by first | exact n0 | exact c0 | (go_simp; done)); have n1 := held_cell (b := w.heap.size) (o := 1) (v := .int .i64 (H : Int)) hbw (by first | omega | (simp; omega)) (by first | exact n1 | exact c1 | (go_simp; done)); have n2 := held_cell (b := w.heap.size) (o := 2) (v := .slice (some ⟨gp, 0, none⟩) n cap) hbw (by first | omega | (simp; omega)) (by first | exact n2 | exact c2 | (go_simp; done)); have n3 := held_cell (b := w.heap.size + 1) (o := 0) (v := .int .i64 (Q : Int)) hbw (by first | omega | (simp; omega)) (by first | exact n3 | exact d0 | (go_simp; done)); have n4 := held_cell (b := w.heap.size + 1) (o := 1) (v := .int .i64 (K : Int)) hbw (by first | omega | (simp; omega)) (by first | exact n4 | exact d1 | (go_simp; done)); skip) | (go_at_call 85; refine (HBOTH.out _).mono ?_; rintro e w' ⟨rfl, hbw⟩; have hbz := hbw.size; (try simp at hbz); have HBW : Below W2.heap.size W2 w' := bnext (by have hB := HBW; ((repeat (first | with_reducible exact hB | with_reducible refine Below.alloc ?_ (by have := hB.size; simp; try omega) _ | with_reducible refine Below.setCell ?_ (by have := hB.size; simp; try omega) _ | with_reducible refine below_drewN ?_ _ | with_reducible refine Below.drew ?_)))) hbw; obtain ⟨hbc, hbf⟩ := bcell hbw; (try (have lt2 : W2.heap.size < w'.heap.size := (by omega))); have ne0 : ¬ w.heap.size = w'.heap.size := (by omega); have ne1 : ¬ w.heap.size + 1 = w'.heap.size := (by omega); have ne2 : ¬ w'.heap.size = w.heap.size := (by omega); have ne3 : ¬ w'.heap.size = w.heap.size + 1 := (by omega); have n0 := held_cell (b := w.heap.size) (o := 0) (v := .int .i64 (P : Int)) hbw (by first | omega | (simp; omega)) (by first | exact n0 | exact c0 | (go_simp; done)); have n1 := held_cell (b := w.heap.size) (o := 1) (v := .int .i64 (H : Int)) hbw (by first | omega | (simp; omega)) (by first | exact n1 | exact c1 | (go_simp; done)); have n2 := held_cell (b := w.heap.size) (o := 2) (v := .slice (some ⟨gp, 0, none⟩) n cap) hbw (by first | omega | (simp; omega)) (by first | exact n2 | exact c2 | (go_simp; done)); have n3 := held_cell (b := w.heap.size + 1) (o := 0) (v := .int .i64 (Q : Int)) hbw (by first | omega | (simp; omega)) (by first | exact n3 | exact d0 | (go_simp; done)); have n4 := held_cell (b := w.heap.size + 1) (o := 1) (v := .int .i64 (K : Int)) hbw (by first | omega | (simp; omega)) (by first | exact n4 | exact d1 | (go_simp; done)); skip))
    all_goals (go_wp2_with fail)
    all_goals go_meet
    all_goals (refine ⟨_, rfl, by first | exact HBW.size | omega | (have := HBW.size; omega), ⟨?_, ?_, ?_, ?_, ?_⟩, ?_⟩)
    all_goals (try (first | (simp; omega) | (simp; done) | (go_simp; done) | (simp [hbc]; done) | (have hB := HBW; (repeat (first | with_reducible exact hB | with_reducible refine Below.alloc ?_ (by have := hB.size; simp; try omega) _ | with_reducible refine Below.setCell ?_ (by have := hB.size; simp; try omega) _ | with_reducible refine below_drewN ?_ _ | with_reducible refine Below.drew ?_)); done)))
  case rest =>
    obtain ⟨gr, rfl, hgr, hrect, hbw⟩ := hcut
    have A := both_area (pw := (P : Int)) (ph := (H : Int)) (Q := ⟨x, y, (Q : Int), (K : Int)⟩) (by omega) (by omega) (by simp; try omega) (by simp; try omega)
    rw [Int.toNat_natCast, Int.toNat_natCast] at A
    obtain ⟨R, hR⟩ : ∃ R, both ⟨0, 0, (P : Int), (H : Int)⟩ ⟨x, y, (Q : Int), (K : Int)⟩ = R := ⟨_, rfl⟩
    rw [hR] at A hrect
    clear hR HBOTH d1
    obtain ⟨cc, hcc⟩ : ∃ cc, onB ⟨x, y, (Q : Int), (K : Int)⟩ = cc := ⟨_, rfl⟩
    rw [hcc] at A
    have Hcc := hid hcc
    clear hcc
    obtain ⟨vv, hvv⟩ : ∃ vv : Nat → Nat → Px, (fun j i => g (l.getD (j * P + i) (0, 0)) (srcP ⟨(Q : Int), (K : Int), q⟩ x y j i)) = vv := ⟨_, rfl⟩
    have Hvv := hid hvv
    clear hvv
    have hnPH : n = P * H := by
      have h1 := R5.out
      have h2 := Hl.out
      have h3 : ((l.length : Nat) : Int) = ((P * H : Nat) : Int) := by rw [h1]; simp
      omega
    have HnPH := hid hnPH
    have Hlen := hid (Hl.out.trans hnPH)
    clear hnPH
    have hP : 0 < P := by omega
    have hxw := A.xw
    have hyh := A.yh
    have hx0 := A.x0
    have hy0 := A.y0
    have hw0 := A.w0
    have hh0 := A.h0
    have HA := hid A
    clear A
    have hzc := hbw.size
    obtain ⟨hr0, hrx, hry, hrw, hrh⟩ := hrect
    have b0 := held_cell hbw (by omega) c0
    have b1 := held_cell hbw (by omega) c1
    have b2 := held_cell hbw (by omega) c2
    have q0 := held_cell hbw (by omega) d0
    have q2 := held_cell hbw (by omega) d2
    have u0 := held_cell hbw (by omega) e0
    have u1 := held_cell hbw (by omega) e1
    have u2 := held_cell hbw (by omega) e2
    have FZ3 := hid (fun o => (hbw.frozen (p := ⟨w.heap.size + 1 + 1, o, none⟩) (by show w.heap.size + 1 + 1 < W2.heap.size; omega)).trans (FZ2.out o))
    have hown3 := own_keep Hown2.out hbw
    have Hpx := hid (fun k hk => (And.intro (held_cell hbw (by omega) (Hpl.out k hk).1) (held_cell hbw (by omega) (Hpl.out k hk).2)))
    have hB3 := bnext hB2 hbw
    have hgz : gp < wc.heap.size := by omega
    clear c0 c1 c2 d0 d2 e0 e1 e2 hbw hB2
    go_wp2_with fail
    go_loopw [12] (fun jv wr => ∃ j : Nat, jv = .int .i64 j ∧ R.y ≤ j ∧ (j : Int) ≤ R.y + R.h ∧ wr.ownsRow (w.heap.size + 3) 42 2 (.slice (some ⟨gp, 0, none⟩) n cap) n (pxCells (upd P l cc vv j 0)) ∧ wc.grownBy wr (some gp)) (fun jv _ => (R.y + R.h - intOf jv).toNat)
    case atStart =>
      refine ⟨R.y.toNat, by congr 1; omega, by omega, by omega, ?_, gb_refl _ _⟩
      rw [upd_start HA.out hP Hlen.out (by omega)]
      exact hown3
    case round =>
      clear hown3
      obtain ⟨j, rfl, hj1, hj2, hown, hgb⟩ := hrel
      have y1 := gb_cell hgb (b := gr) (by omega) (by omega) hry
      have y2 := gb_cell hgb (b := gr) (by omega) (by omega) hrh
      have y3 := gb_cell hgb (b := gr) (by omega) (by omega) hrx
      by_cases hj : (j : Int) < R.y + R.h
      · go_wp2_with fail
        obtain ⟨wo, rfl⟩ : ∃ wo : World, wo = wr := ⟨_, rfl⟩
        go_loopw [13] (fun iv wr => ∃ i : Nat, iv = .int .i64 i ∧ R.x ≤ i ∧ (i : Int) ≤ R.x + R.w ∧ wr.ownsRow (w.heap.size + 3) 42 2 (.slice (some ⟨gp, 0, none⟩) n cap) n (pxCells (upd P l cc vv j i)) ∧ wc.grownBy wr (some gp)) (fun iv _ => (R.x + R.w - intOf iv).toNat)
        case atStart =>
          refine ⟨R.x.toNat, by congr 1; omega, by omega, by omega, ?_, hgb⟩
          rw [← upd_row HA.out hP Hlen.out (by omega)]
          exact hown
        case round =>
          clear hown hgb y1 y2 y3
          obtain ⟨i, rfl, hi1, hi2, hown, hgb⟩ := hrel
          have y3 := gb_cell hgb (b := gr) (by omega) (by omega) hrx
          have y4 := gb_cell hgb (b := gr) (by omega) (by omega) hrw
          by_cases hi : (i : Int) < R.x + R.w
          · have hjH : j < H := by omega
            have hiP : i < P := by omega
            have hcj : cc j i = true := by rw [HA.out.has j i hjH hiP]; exact has_iff.2 (by omega)
            have hKn := at_lt hjH hiP
            have hsrc := src_lt (q := ⟨(Q : Int), (K : Int), q⟩) (x := x) (y := y) (j := j) (i := i) Hfs.out (by rw [Hcc.out]; exact hcj)
            have hon := has_iff.1 (show hasB ⟨x, y, (Q : Int), (K : Int)⟩ (i : Int) (j : Int) = true from by have := hcj; rw [← Hcc.out] at this; exact this)
            simp only at hsrc hon
            have hread := upd_at (c := cc) (v := vv) Hlen.out hjH hiP
            have hstep := upd_step (c := cc) (v := vv) Hlen.out hjH hiP hcj
            have hvv : vv j i = g (l.getD (j * P + i) (0, 0)) (srcP ⟨(Q : Int), (K : Int), q⟩ x y j i) := by rw [← Hvv.out]
            unfold srcP at hvv
            simp only at hvv
            obtain ⟨KK, hKK⟩ : ∃ KK, j * P + i = KK := ⟨_, rfl⟩
            obtain ⟨JP, hJP⟩ : ∃ JP, j * P = JP := ⟨_, rfl⟩
            obtain ⟨SS, hSS⟩ : ∃ SS : Nat, ((j : Int) - y) * (Q : Int) + (i : Int) - x = (SS : Int) := ⟨(((j : Int) - y) * (Q : Int) + (i : Int) - x).toNat, by omega⟩
            obtain ⟨M1, hM1⟩ : ∃ M1 : Int, (j : Int) - y = M1 := ⟨_, rfl⟩
            obtain ⟨M2, hM2⟩ : ∃ M2 : Int, M1 * (Q : Int) = M2 := ⟨_, rfl⟩
            have hJPi : (j : Int) * (P : Int) = (JP : Int) := by rw [← hJP]; simp
            have hM1b : 0 ≤ M1 ∧ M1 ≤ 8 := by omega
            have hM2b : 0 ≤ M2 ∧ M2 ≤ 64 := by
              have t1 : 0 ≤ M1 * (Q : Int) := Int.mul_nonneg hM1b.1 (by omega)
              have t2 : M1 * (Q : Int) ≤ 8 * 8 := Int.mul_le_mul hM1b.2 (by omega) (by omega) (by omega)
              omega
            rw [hSS] at hsrc hvv
            rw [hM1, hM2] at hSS
            rw [hKK] at hKn hread hstep hvv
            rw [Int.toNat_natCast] at hvv
            have hKl : KK < l.length := by rw [Hlen.out]; exact hKn
            have hSl : SS < q.length := by omega
            rw [List.getD_eq_getElem?_getD, List.getElem?_eq_getElem hKl, List.getD_eq_getElem?_getD, List.getElem?_eq_getElem hSl, Option.getD_some, Option.getD_some] at hvv
            rw [List.getElem?_eq_getElem hKl] at hread
            obtain ⟨p0, p1⟩ := own_px hown hread
            obtain ⟨s0, s1⟩ := Hpx.out SS hSl
            have f1 := Hfr.out.2.2.2.2.2 l[KK] (List.getElem_mem hKl)
            have f2 := Hfs.out.2.2.2.2.2 q[SS] (List.getElem_mem hSl)
            generalize l[KK] = pa at *
            generalize q[SS] = pb at *
            have Hvj := hid hvv
            have Hstep := hid hstep
            have Hcall := hid (fun W => HN.out pa pb W f1 f2)
            have hKKn : KK < n := by rw [HnPH.out]; exact hKn
            have hSm : SS < m := by rw [← Hq.out]; exact hSl
            have hcf := Hcf.out
            have w1 : IntKind.i64.wrap ((j : Int) * (P : Int)) = (JP : Int) := by rw [hJPi]; exact IntWalk.i64_in _ (by omega)
            have w2 : IntKind.i64.wrap ((JP : Int) + (i : Int)) = (KK : Int) := by rw [show (JP : Int) + (i : Int) = (KK : Int) by omega]; exact IntWalk.i64_in _ (by omega)
            have w3 : IntKind.i64.wrap ((j : Int) - y) = M1 := by rw [hM1]; exact IntWalk.i64_in _ (by omega)
            have w4 : IntKind.i64.wrap (M1 * (Q : Int)) = M2 := by rw [hM2]; exact IntWalk.i64_in _ (by omega)
            have w5 : IntKind.i64.wrap (M2 + (i : Int)) = M2 + (i : Int) := IntWalk.i64_in _ (by omega)
            have w6 : IntKind.i64.wrap (M2 + (i : Int) - x) = (SS : Int) := by rw [hSS]; exact IntWalk.i64_in _ (by omega)
            have x1 : (0 : Int) ≤ (KK : Int) := by omega
            have x2 : (KK : Int) < (n : Int) := by omega
            have x3 : (0 : Int) ≤ (SS : Int) := by omega
            have x4 : (SS : Int) < (m : Int) := by omega
            have z1 := gb_cell hgb (b := w.heap.size) (by omega) (by omega) b0
            have z2 := gb_cell hgb (b := w.heap.size) (by omega) (by omega) b2
            have z3 := gb_cell hgb (b := w.heap.size + 1) (by omega) (by omega) q0
            have z4 := gb_cell hgb (b := w.heap.size + 1) (by omega) (by omega) q2
            have z5 := gb_cell hgb (b := qb) (by omega) (by omega) s0
            have z6 := gb_cell hgb (b := qb) (by omega) (by omega) s1
            have hws := hgb.size
            have hgw : gp < wr.heap.size := by omega
            have fz0 := hown.frozenAt (KK * 2)
            have fz1 := hown.frozenAt (KK * 2 + 1)
            have ne0 : ¬ w.heap.size = gp := by omega
            have ne1 : ¬ w.heap.size + 1 = gp := by omega
            have ne2 : ¬ qb = gp := by omega
            have ne3 : ¬ gp = w.heap.size := by omega
            have ne4 : ¬ gp = w.heap.size + 1 := by omega
            have ne5 : ¬ gp = qb := by omega
            have Hown := hid hown
            go_upto_region 9 with fail
            clear hvv hstep hread hsrc hon hcj hKn hKK hJP hM1 hM2 hJPi hSS hKl hSl s0 s1 f1 f2 y3 y4 hrx hry hrw hrh b0 b1 b2 q0 q2 u0 u1 u2 hown hM1b hM2b
            have F1 := cell_all2 (b := w.heap.size) (by omega) z1
            have F2 := cell_all2 (b := w.heap.size) (by omega) z2
            have F3 := cell_all2 (b := w.heap.size + 1) (by omega) z3
            have F4 := cell_all2 (b := w.heap.size + 1) (by omega) z4
            have F5 := cell_all2 (b := qb) (by omega) z5
            have F6 := cell_all2 (b := qb) (by omega) z6
            have F7 := cell_all2 hgw p0
            have F8 := cell_all2 hgw p1
            have r1 := fun dd os => Ret.regrown (Hcall.out (grow (redrawn wr dd) os))
            clear z1 z2 z3 z4 z5 z6
            (refine wp_region_last_at 35 _ rfl (by kernel_rfl) (by kernel_rfl) (by kernel_rfl) ?_; simp only [List.take_succ_cons, List.take_zero])
            repeat (quiet_step (first | exact r1 _ _))
            (refine wpQuiet_nil ?_; intro _ hw'; obtain ⟨⟨dq, osq⟩, hw''⟩ := hw'; subst hw'')
            have hb3 := below_regrown wr dq osq
            have hown3 := own_keep Hown.out hb3
            have hgb3 := gb_below hgb hb3
            have n7 := F7 dq osq
            have n8 := F8 dq osq
            have n9 := (hb3.frozen (p := ⟨gp, KK * 2, none⟩) hgw).trans fz0
            have n10 := (hb3.frozen (p := ⟨gp, KK * 2 + 1, none⟩) hgw).trans fz1
            clear F1 F2 F3 F4 F5 F6 F7 F8 r1 hb3 fz0 fz1 p0 p1 hgb w1 w2 w3 w4 w5 w6
            generalize grow (redrawn wr dq) osq = w9 at *
            have hset := own_set hown3 KK (g pa pb)
            rw [← Hvj.out, Hstep.out] at hset
            rw [← Hvj.out]
            go_wp2_with fail
            go_roundw
            case rel => exact ⟨i + 1, by go_num, by omega, by omega, hset, gb_set (gb_set hgb3 _ _) _ _⟩
            case measure => simp [intOf]; omega
          · have Hown := hid (upd_end (v := vv) HA.out hP Hlen.out (j := j) (i := i) (by omega))
            rw [Hown.out] at hown
            have Hj := hid (show R.y ≤ ((j + 1 : Nat) : Int) ∧ ((j + 1 : Nat) : Int) ≤ R.y + R.h by omega)
            go_wp2_with fail
            go_roundw
            case rel => exact ⟨j + 1, by go_num, Hj.out.1, Hj.out.2, hown, hgb⟩
            case measure => simp [intOf]; omega
      · have Hfin := hid (upd_done (v := vv) HA.out hP Hlen.out (j := j) (by omega))
        rw [Hfin.out] at hown
        have m0 := gb_cell hgb (b := w.heap.size) (by omega) (by omega) b0
        have m1 := gb_cell hgb (b := w.heap.size) (by omega) (by omega) b1
        have m2 := gb_cell hgb (b := w.heap.size) (by omega) (by omega) b2
        have m3 := gb_cell hgb (b := w.heap.size + 1 + 1) (by omega) (by omega) u0
        have m4 := gb_cell hgb (b := w.heap.size + 1 + 1) (by omega) (by omega) u1
        have m5 := gb_cell hgb (b := w.heap.size + 1 + 1) (by omega) (by omega) u2
        have m6 := gb_frozen hgb (b := w.heap.size + 1 + 1) (o := 0) (by omega) (by omega) (FZ3.out 0)
        have m7 := gb_frozen hgb (b := w.heap.size + 1 + 1) (o := 1) (by omega) (by omega) (FZ3.out 1)
        have m8 := gb_frozen hgb (b := w.heap.size + 1 + 1) (o := 2) (by omega) (by omega) (FZ3.out 2)
        clear y3 hrx hry hrw hrh b0 b1 b2 q0 q2 u0 u1 u2
        have Hchg := hid (change_eq (g := g) (l := l) (q := q) (x := x) (y := y) (P := P) (H := H) (Q := Q) (K := K) Hcc.out Hvv.out)
        have hlen := (show (updL P l cc vv).length = n by rw [updL_len]; exact Hl.out)
        have hkept := hgb
        have hB4 := hB3
        have HH := hid hown
        go_wp2_with fail
        refine bodyPost_ret (v := .agg #[.int .i64 (P : Int), .int .i64 (H : Int), .slice (some ⟨gp, 0, none⟩) n cap]) (by simp [results, Try.results77, go_sem, m3, m4, m5]) rfl ?_
        refine ⟨some ⟨gp, 0, none⟩, cap, ?_, ?_, fun a e => by injection e with e; subst e; show w.heap.size ≤ gp; omega, ?_⟩
        · rw [Hchg.out]; simp only; rw [hlen]
        · rw [Hchg.out]; simp only; rw [hlen]
          exact pixs_own (ownsRow_setCell_below (ownsRow_setCell_below (ownsRow_setCell_below HH.out (by show w.heap.size + 1 + 1 < _; omega) _) (by show w.heap.size + 1 + 1 < _; omega) _) (by show w.heap.size + 1 + 1 < _; omega) _) hlen
        · refine Below.setCell (Below.setCell (Below.setCell ?_ ?_ _) ?_ _) ?_ _
          · exact below_grown hB4 hkept (by have := hB4.size; omega) (by omega)
          all_goals (show w.heap.size ≤ w.heap.size + 1 + 1; omega)
end Fb
