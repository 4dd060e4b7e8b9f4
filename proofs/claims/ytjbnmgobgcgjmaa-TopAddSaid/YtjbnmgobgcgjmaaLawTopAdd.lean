/- The law TopAdd: it returns true. Conditions: none but the arguments' shape. -/
import Derived.Test.YtjbnmgobgcgjmaaPicRet
import Derived.Test.YtjbnmgobgcgjmaaOpen2
import Derived.Test.YtjbnmgobgcgjmaaPlain
import Derived.Test.YtjbnmgobgcgjmaaPicCheck
import Derived.Test.YtjbnmgobgcgjmaaReelWalk
import Derived.Test.YtjbnmgobgcgjmaaRectWalk
import Derived.Deep.DrawnRows
namespace Fb
open Go Go.Proofs Go.RowKit Go.Sort
/-- block g holds three pictures' heads -/
def NineAt (g : Nat) (pw ph qw qh rw rh : Int) (pA qA rA : Option Addr) (pn pc qn qc rn rc : Nat) (W : World) : Prop := g < W.heap.size ∧ W.cell? ⟨g, 0, none⟩ = some (.int .i64 pw) ∧ W.cell? ⟨g, 1, none⟩ = some (.int .i64 ph) ∧ W.cell? ⟨g, 2, none⟩ = some (.slice pA pn pc) ∧ W.cell? ⟨g, 3, none⟩ = some (.int .i64 qw) ∧ W.cell? ⟨g, 4, none⟩ = some (.int .i64 qh) ∧ W.cell? ⟨g, 5, none⟩ = some (.slice qA qn qc) ∧ W.cell? ⟨g, 6, none⟩ = some (.int .i64 rw) ∧ W.cell? ⟨g, 7, none⟩ = some (.int .i64 rh) ∧ W.cell? ⟨g, 8, none⟩ = some (.slice rA rn rc)
theorem NineAt.below {g : Nat} {pw ph qw qh rw rh : Int} {pA qA rA : Option Addr} {pn pc qn qc rn rc : Nat} {W W' : World} (h : NineAt g pw ph qw qh rw rh pA qA rA pn pc qn qc rn rc W) (hb : Below W.heap.size W W') : NineAt g pw ph qw qh rw rh pA qA rA pn pc qn qc rn rc W' := by
  obtain ⟨z, a, b, c, d, e, f, g', h', i⟩ := h
  exact ⟨Nat.lt_of_lt_of_le z hb.size, kcell hb z a, kcell hb z b, kcell hb z c, kcell hb z d, kcell hb z e, kcell hb z f, kcell hb z g', kcell hb z h', kcell hb z i⟩
theorem NineAt.new (W : World) (pw ph qw qh rw rh : Int) (pA qA rA : Option Addr) (pn pc qn qc rn rc : Nat) (t : TypeId) : NineAt W.heap.size pw ph qw qh rw rh pA qA rA pn pc qn qc rn rc (W.alloc (.cells #[.int .i64 pw, .int .i64 ph, .slice pA pn pc, .int .i64 qw, .int .i64 qh, .slice qA qn qc, .int .i64 rw, .int .i64 rh, .slice rA rn rc] t)) := ⟨by simp, by simp, by simp, by simp, by simp, by simp, by simp, by simp, by simp, by simp⟩
theorem mul_bdA (a b : Int) (h1 : -20 ≤ a) (h2 : a ≤ 28) (h3 : 1 ≤ b) (h4 : b ≤ 8) : -160 ≤ a * b ∧ a * b ≤ 224 := by
  have e1 := Int.mul_nonneg (show 0 ≤ a + 20 by omega) (show 0 ≤ b by omega)
  have e2 := Int.mul_nonneg (show 0 ≤ 28 - a by omega) (show 0 ≤ b by omega)
  rw [Int.add_mul] at e1
  rw [Int.sub_mul] at e2
  omega
theorem fine_one {v a : Int} (h : PxFine (v, a)) : PicFine ⟨1, 1, [(v, a)]⟩ := ⟨by simp, by simp, by simp, by simp, by simp, fun q hq => by simp at hq; subst hq; exact h⟩
theorem add_one (A : Option Addr) (c : Nat) (W : World) (h : Pixs W A 1 [(200, 100)]) :
    Calls Try.prog 19 #[.agg #[.int .i64 1, .int .i64 1, .slice A 1 c], .agg #[.int .i64 1, .int .i64 1, .slice A 1 c], .int .i64 0, .int .i64 0] W (RetPicA 1 1 [(144, 200)] W) := by
  have h := add_any ⟨⟨1, 1, [(200, 100)]⟩, A, 1, c⟩ ⟨⟨1, 1, [(200, 100)]⟩, A, 1, c⟩ 0 0 W h h (fine_one (by unfold PxFine; simp)) (fine_one (by unfold PxFine; simp)) (by omega) (by omega)
  have e : changeP addP ⟨1, 1, [(200, 100)]⟩ ⟨1, 1, [(200, 100)]⟩ 0 0 = ⟨1, 1, [(144, 200)]⟩ := by rfl
  simp only [e] at h
  exact h.mono fun e w' hr => ret_a (fine_one (by unfold PxFine; simp)) hr
theorem add_A {r s : FAt FPic} {x y : Int} {l : List Px} (e : changeP addP r.x s.x x y = ⟨r.x.w, r.x.h, l⟩) (fr : PicFine r.x) (fs : PicFine s.x) (bx : -100 ≤ x ∧ x ≤ 100) (b_y : -100 ≤ y ∧ y ≤ 100) (W : World) (hr : Pixs W r.A r.n r.x.p) (hs : Pixs W s.A s.n s.x.p) :
    Calls Try.prog 19 #[.agg #[.int .i64 r.x.w, .int .i64 r.x.h, .slice r.A r.n r.c], .agg #[.int .i64 s.x.w, .int .i64 s.x.h, .slice s.A s.n s.c], .int .i64 x, .int .i64 y] W (RetPicA r.x.w r.x.h l W) := by
  have h := add_any r s x y W hr hs fr fs bx b_y
  have hf : PicFine (changeP addP r.x s.x x y) := change_fine (fun a b _ _ => addP_fine a b) fr fs
  rw [e] at h hf
  exact h.mono fun e w' hr => ret_a hf hr
theorem put_A {r s : FAt FPic} {x y : Int} {l : List Px} (e : changeP putP r.x s.x x y = ⟨r.x.w, r.x.h, l⟩) (fr : PicFine r.x) (fs : PicFine s.x) (bx : -100 ≤ x ∧ x ≤ 100) (b_y : -100 ≤ y ∧ y ≤ 100) (W : World) (hr : Pixs W r.A r.n r.x.p) (hs : Pixs W s.A s.n s.x.p) :
    Calls Try.prog 21 #[.agg #[.int .i64 r.x.w, .int .i64 r.x.h, .slice r.A r.n r.c], .agg #[.int .i64 s.x.w, .int .i64 s.x.h, .slice s.A s.n s.c], .int .i64 x, .int .i64 y] W (RetPicA r.x.w r.x.h l W) := by
  have h := put_any r s x y W hr hs fr fs bx b_y
  have hf : PicFine (changeP putP r.x s.x x y) := change_fine (fun a b _ hb => hb) fr fs
  rw [e] at h hf
  exact h.mono fun e w' hr => ret_a hf hr
theorem addN_eta {pw ph : Int} {pl : List Px} {q : FPic} {x y : Int} (k : Nat) : addN ⟨pw, ph, pl⟩ q x y k = ⟨pw, ph, (addN ⟨pw, ph, pl⟩ q x y k).p⟩ := by
  obtain ⟨w1, h1, -⟩ := addN_w ⟨pw, ph, pl⟩ q x y k
  generalize addN ⟨pw, ph, pl⟩ q x y k = z at *
  obtain ⟨a, b, c⟩ := z
  simp only at w1 h1
  subst w1 h1
  rfl
theorem add_N {pw ph qw qh : Int} {pl ql : List Px} {qA : Option Addr} {qn qc : Nat} (k : Nat) (A : Option Addr) (c : Nat) {x y : Int} (fp : PicFine ⟨pw, ph, pl⟩) (fq : PicFine ⟨qw, qh, ql⟩) (bx : -100 ≤ x ∧ x ≤ 100) (b_y : -100 ≤ y ∧ y ≤ 100) (W : World)
    (hl : Pixs W A (addN ⟨pw, ph, pl⟩ ⟨qw, qh, ql⟩ x y k).p.length (addN ⟨pw, ph, pl⟩ ⟨qw, qh, ql⟩ x y k).p) (hq : Pixs W qA qn ql) :
    Calls Try.prog 19 #[.agg #[.int .i64 pw, .int .i64 ph, .slice A (addN ⟨pw, ph, pl⟩ ⟨qw, qh, ql⟩ x y k).p.length c], .agg #[.int .i64 qw, .int .i64 qh, .slice qA qn qc], .int .i64 x, .int .i64 y] W (RetPicA pw ph (addN ⟨pw, ph, pl⟩ ⟨qw, qh, ql⟩ x y (k + 1)).p W) := by
  have e0 := addN_eta (pw := pw) (ph := ph) (pl := pl) (q := ⟨qw, qh, ql⟩) (x := x) (y := y) k
  have e1 : changeP addP ⟨pw, ph, (addN ⟨pw, ph, pl⟩ ⟨qw, qh, ql⟩ x y k).p⟩ ⟨qw, qh, ql⟩ x y = ⟨pw, ph, (addN ⟨pw, ph, pl⟩ ⟨qw, qh, ql⟩ x y (k + 1)).p⟩ := by
    rw [← e0]
    exact addN_eta (k + 1)
  have f1 : PicFine ⟨pw, ph, (addN ⟨pw, ph, pl⟩ ⟨qw, qh, ql⟩ x y k).p⟩ := by rw [← e0]; exact addN_fine fp fq k
  exact add_A (r := ⟨⟨pw, ph, (addN ⟨pw, ph, pl⟩ ⟨qw, qh, ql⟩ x y k).p⟩, A, (addN ⟨pw, ph, pl⟩ ⟨qw, qh, ql⟩ x y k).p.length, c⟩) (s := ⟨⟨qw, qh, ql⟩, qA, qn, qc⟩) e1 f1 fq bx b_y W hl hq
theorem same_selfN (pw ph : Int) (l : List Px) (A B : Option Addr) (n m c d : Nat) (w : World) (ha : Pixs w A n l) (hb : Pixs w B m l) (hl : l.length ≤ 1000000) :
    Calls Try.prog 16 #[.agg #[.int .i64 pw, .int .i64 ph, .slice A n c], .agg #[.int .i64 pw, .int .i64 ph, .slice B m d]] w (Ret (.bool true) w) := by
  obtain rfl := ha.1
  obtain rfl := hb.1
  exact same_selfA pw ph l A B c d w ha hb hl
def NewPicR (W : World) (pw ph : Int) (l : List Px) (t : Value) (wi : World) : Prop := ∃ g b off c, t = .pointer (some ⟨g, 0, none⟩) ∧ PicAt g pw ph (some ⟨b, off, none⟩) l.length c wi ∧ Pixs wi (some ⟨b, off, none⟩) l.length l ∧ Below W.heap.size W wi
/-- a variable of the call's own that holds a picture -/
def SAt (g : Nat) (pw ph : Int) (b off n c : Nat) (l : List Px) (W : World) : Prop := PicAt g pw ph (some ⟨b, off, none⟩) n c W ∧ (∀ o, W.frozen? ⟨g, o, none⟩ = false) ∧ Pixs W (some ⟨b, off, none⟩) n l ∧ b ≠ g
theorem SAt.below {g : Nat} {pw ph : Int} {b off n c : Nat} {l : List Px} {W W' : World} (h : SAt g pw ph b off n c l W) (hb : Below W.heap.size W W') : SAt g pw ph b off n c l W' :=
  ⟨h.1.below hb, fun o => (hb.frozen (p := ⟨g, o, none⟩) h.1.1).trans (h.2.1 o), h.2.2.1.below hb, h.2.2.2⟩
theorem SAt.new {pw ph : Int} {b off n c : Nat} {l : List Px} {t : TypeId} (W : World) (h : Pixs W (some ⟨b, off, none⟩) n l) (hn : 0 < n) : SAt W.heap.size pw ph b off n c l (W.alloc (.cells #[.int .i64 pw, .int .i64 ph, .slice (some ⟨b, off, none⟩) n c] t)) := by
  obtain ⟨b', off', e, hlt, -⟩ := h.open_ hn
  injection e with e
  injection e with e1 e2
  subst e1 e2
  exact ⟨PicAt.new _ _ _ _ _ _ _, fun o => by simp, h.below ((Below.refl _ _).alloc (Nat.le_refl _) _), by omega⟩
theorem SAt.set {g : Nat} {pw ph : Int} {b off n c b2 o2 n2 c2 : Nat} {l l2 : List Px} {W : World} (h : SAt g pw ph b off n c l W) (hp : Pixs W (some ⟨b2, o2, none⟩) n2 l2) (hne : b2 ≠ g) :
    SAt g pw ph b2 o2 n2 c2 l2 (((W.setCell ⟨g, 0, none⟩ (.int .i64 pw)).setCell ⟨g, 1, none⟩ (.int .i64 ph)).setCell ⟨g, 2, none⟩ (.slice (some ⟨b2, o2, none⟩) n2 c2)) := by
  obtain ⟨⟨z, c0, c1, c2⟩, f, -, -⟩ := h
  refine ⟨⟨by simp; omega, ?_, ?_, ?_⟩, fun o => ?_, ((hp.setCell hne).setCell hne).setCell hne, hne⟩
  · go_simp
  · go_simp
  · go_simp
  · rw [World.frozen?_setCell, World.frozen?_setCell, World.frozen?_setCell]; exact f o
theorem newpic_new {W w' : World} {pw ph : Int} {l : List Px} {b off c : Nat} {t : TypeId} (hb : Below W.heap.size W w') (hp : Pixs w' (some ⟨b, off, none⟩) l.length l) : NewPicR W pw ph l (.pointer (some ⟨w'.heap.size, 0, none⟩)) (w'.alloc (.cells #[.int .i64 pw, .int .i64 ph, .slice (some ⟨b, off, none⟩) l.length c] t)) :=
  ⟨_, b, off, c, rfl, PicAt.new _ _ _ _ _ _ _, hp.below ((Below.refl _ _).alloc (Nat.le_refl _) _), hb.alloc hb.size _⟩
theorem newpic_set {W w' : World} {pw ph : Int} {l : List Px} {b off c g : Nat} (hb : Below W.heap.size W w') (h1 : W.heap.size ≤ g) (h2 : g < w'.heap.size) (c0 : w'.cell? ⟨g, 0, none⟩ = some (.int .i64 0)) (c1 : w'.cell? ⟨g, 1, none⟩ = some (.int .i64 0)) (c2 : w'.cell? ⟨g, 2, none⟩ = some (.slice none 0 0))
    (hp : Pixs w' (some ⟨b, off, none⟩) l.length l) (hne : b ≠ g) : NewPicR W pw ph l (.pointer (some ⟨g, 0, none⟩)) (((w'.setCell ⟨g, 0, none⟩ (.int .i64 pw)).setCell ⟨g, 1, none⟩ (.int .i64 ph)).setCell ⟨g, 2, none⟩ (.slice (some ⟨b, off, none⟩) l.length c)) := by
  refine ⟨g, b, off, c, rfl, ⟨by simp; omega, ?_, ?_, ?_⟩, ((hp.setCell hne).setCell hne).setCell hne, ((hb.setCell h1 _).setCell h1 _).setCell h1 _⟩
  · go_simp
  · go_simp
  · go_simp
def BoxesTopAdd (w : World) (pw : Int) (ph : Int) (_pl : List Px) (pA : Option Addr) (pn pc : Nat) (qw : Int) (qh : Int) (_ql : List Px) (qA : Option Addr) (qn qc : Nat) (rw : Int) (rh : Int) (_rl : List Px) (rA : Option Addr) (rn rc : Nat) (_x : Int) (_y : Int) (_i : Int) (_j : Int) (W : World) : Prop := W.cell? ⟨w.heap.size, 0, none⟩ = some (.int .i64 pw) ∧ W.cell? ⟨w.heap.size, 1, none⟩ = some (.int .i64 ph) ∧ W.cell? ⟨w.heap.size, 2, none⟩ = some (.slice pA pn pc) ∧ W.cell? ⟨w.heap.size + 1, 0, none⟩ = some (.int .i64 qw) ∧ W.cell? ⟨w.heap.size + 1, 1, none⟩ = some (.int .i64 qh) ∧ W.cell? ⟨w.heap.size + 1, 2, none⟩ = some (.slice qA qn qc) ∧ W.cell? ⟨w.heap.size + 1 + 1, 0, none⟩ = some (.int .i64 rw) ∧ W.cell? ⟨w.heap.size + 1 + 1, 1, none⟩ = some (.int .i64 rh) ∧ W.cell? ⟨w.heap.size + 1 + 1, 2, none⟩ = some (.slice rA rn rc)
theorem kc_TopAdd {w w' : World} {B : Nat} (hb : Below B w w') {b o : Nat} {v : Value} (h : b < B) (hc : w.cell? ⟨b, o, none⟩ = some v) : w'.cell? ⟨b, o, none⟩ = some v := (hb.cell (p := ⟨b, o, none⟩) h).trans hc
theorem BoxesTopAdd.below {w W W' : World} {pw : Int} {ph : Int} {pl : List Px} {pA : Option Addr} {pn pc : Nat} {qw : Int} {qh : Int} {ql : List Px} {qA : Option Addr} {qn qc : Nat} {rw : Int} {rh : Int} {rl : List Px} {rA : Option Addr} {rn rc : Nat} {x : Int} {y : Int} {i : Int} {j : Int} (h : BoxesTopAdd w pw ph pl pA pn pc qw qh ql qA qn qc rw rh rl rA rn rc x y i j W) (hb : Below W.heap.size W W') (hs : w.heap.size + 3 ≤ W.heap.size) : BoxesTopAdd w pw ph pl pA pn pc qw qh ql qA qn qc rw rh rl rA rn rc x y i j W' := by
  obtain ⟨c0, c1, c2, c3, c4, c5, c6, c7, c8⟩ := h
  exact ⟨kc_TopAdd hb (by omega) c0, kc_TopAdd hb (by omega) c1, kc_TopAdd hb (by omega) c2, kc_TopAdd hb (by omega) c3, kc_TopAdd hb (by omega) c4, kc_TopAdd hb (by omega) c5, kc_TopAdd hb (by omega) c6, kc_TopAdd hb (by omega) c7, kc_TopAdd hb (by omega) c8⟩
set_option maxRecDepth 100000 in
set_option maxHeartbeats 16000000 in
theorem topAdd_walk (pw : Int) (ph : Int) (pl : List Px) (pA : Option Addr) (pn pc : Nat) (qw : Int) (qh : Int) (ql : List Px) (qA : Option Addr) (qn qc : Nat) (rw : Int) (rh : Int) (rl : List Px) (rA : Option Addr) (rn rc : Nat) (x : Int) (y : Int) (i : Int) (j : Int) (w : World)  (h_p : Pixs w pA pn pl) (h_q : Pixs w qA qn ql) (h_r : Pixs w rA rn rl) :
    Calls Try.prog 4 #[.agg #[.int .i64 pw, .int .i64 ph, .slice pA pn pc], .agg #[.int .i64 qw, .int .i64 qh, .slice qA qn qc], .agg #[.int .i64 rw, .int .i64 rh, .slice rA rn rc], .int .i64 x, .int .i64 y, .int .i64 i, .int .i64 j] w (Ret (.bool true) w) := by
  have H_p := hid h_p
  clear h_p
  have H_q := hid h_q
  clear h_q
  have H_r := hid h_r
  clear h_r
  go_enter Try.func4, Try.ntmps4
  go_upto_region 1 with fail
  obtain ⟨W0, hW0⟩ : ∃ W0, W0 = (((w.alloc (.cells #[.int .i64 pw, .int .i64 ph, .slice pA pn pc] 26)).alloc (.cells #[.int .i64 qw, .int .i64 qh, .slice qA qn qc] 26)).alloc (.cells #[.int .i64 rw, .int .i64 rh, .slice rA rn rc] 26)) := ⟨_, rfl⟩
  have hB0 : Below w.heap.size w W0 := by rw [hW0]; exact (((Below.refl w.heap.size w).alloc (by simp; try omega) _).alloc (by simp; try omega) _).alloc (by simp; try omega) _
  have z0 : w.heap.size + 3 ≤ W0.heap.size := by rw [hW0]; simp
  have CE0 : BoxesTopAdd w pw ph pl pA pn pc qw qh ql qA qn qc rw rh rl rA rn rc x y i j W0 := by rw [hW0]; refine ⟨?_, ?_, ?_, ?_, ?_, ?_, ?_, ?_, ?_⟩ <;> go_simp
  rw [← hW0]
  clear hW0
  have CEH := hid CE0
  clear CE0
  have CE0 := CEH
  clear CEH
  obtain ⟨c0, c1, c2, c3, c4, c5, c6, c7, c8⟩ := CE0.out
  go_upto_region 2 with fail
  obtain ⟨W', hW'⟩ : ∃ W', W' = (W0.alloc (.cells #[.int .i64 200, .int .i64 100] 23)).alloc (.cells #[.int .i64 1, .int .i64 1, .slice (some ⟨W0.heap.size, 0, none⟩) 1 1] 26) := ⟨_, rfl⟩
  rw [← hW']
  have hb : Below W0.heap.size W0 W' := by rw [hW']; exact ((Below.refl _ _).alloc (Nat.le_refl _) _).alloc (by simp) _
  have hF : PicAt (W0.heap.size + 1) 1 1 (some ⟨W0.heap.size, 0, none⟩) 1 1 W' := by rw [hW']; refine ⟨by simp, ?_, ?_, ?_⟩ <;> go_simp
  have hG : Pixs W' (some ⟨W0.heap.size, 0, none⟩) 1 [(200, 100)] := by
    rw [hW']
    exact pixs_blk (l := [(200, 100)]) ((Below.heap_alloc _ _ _ (by simp)).trans (MapKept.heap_alloc W0 _).1)
  clear hW'
  obtain ⟨w1, rfl⟩ : ∃ w : World, w = W' := ⟨_, rfl⟩
  clear c0 c1 c2 c3 c4 c5 c6 c7 c8
  have CE1 := hid (CE0.out.below hb z0)
  have hB1 : Below w.heap.size w w1 := bnext hB0 hb
  have z1 : w.heap.size + 3 ≤ w1.heap.size := Nat.le_trans z0 hb.size
  clear hb hB0 z0 CE0
  obtain ⟨c0, c1, c2, c3, c4, c5, c6, c7, c8⟩ := CE1.out
  obtain ⟨gone, hg⟩ : ∃ g, g = W0.heap.size + 1 := ⟨_, rfl⟩
  obtain ⟨pone, hg2⟩ : ∃ g, g = W0.heap.size := ⟨_, rfl⟩
  rw [← hg, ← hg2] at hF
  rw [← hg2] at hG
  rw [← hg, ← hg2]
  clear hg hg2
  have Hone := hid (hF)
  obtain ⟨oz, o0, o1, o2⟩ := Hone.out
  have HoneP := hid (hG)
  clear hF hG
  go_wp2_with fail
  refine (add_one _ _ _ HoneP.out).mono ?_
  rintro e w2 ⟨tbb, too, tcc, rfl, hT, ht1, ht2, hb⟩
  clear c0 c1 c2 c3 c4 c5 c6 c7 c8 oz o0 o1 o2
  have Hone := hid (Hone.out.below hb)
  have HoneP := hid (HoneP.out.below hb)
  have CE2 := hid (CE1.out.below hb z1)
  have hB2 : Below w.heap.size w w2 := bnext hB1 hb
  have z2 : w.heap.size + 3 ≤ w2.heap.size := Nat.le_trans z1 hb.size
  clear hb hB1 z1 CE1
  obtain ⟨c0, c1, c2, c3, c4, c5, c6, c7, c8⟩ := CE2.out
  obtain ⟨oz, o0, o1, o2⟩ := Hone.out
  clear oz o0 o1 o2
  clear Hone
  clear HoneP
  have HTX := hid (pixs_in hT (by decide))
  clear hT
  go_upto_region 3 with fail
  obtain ⟨W', hW'⟩ : ∃ W', W' = w2.alloc (.cells #[.int .i64 (1), .int .i64 (1), .slice (some ⟨tbb, too, none⟩) (1) (tcc)] 26) := ⟨_, rfl⟩
  rw [← hW']
  have hb : Below w2.heap.size w2 W' := by rw [hW']; exact (Below.refl _ _).alloc (Nat.le_refl _) _
  have hF : PicAt w2.heap.size (1) (1) (some ⟨tbb, too, none⟩) (1) (tcc) W' := by rw [hW']; exact PicAt.new _ _ _ _ _ _ _
  clear hW'
  obtain ⟨w3, rfl⟩ : ∃ w : World, w = W' := ⟨_, rfl⟩
  clear c0 c1 c2 c3 c4 c5 c6 c7 c8
  have HTX := hid (HTX.out.below hb)
  have CE3 := hid (CE2.out.below hb z2)
  have hB3 : Below w.heap.size w w3 := bnext hB2 hb
  have z3 : w.heap.size + 3 ≤ w3.heap.size := Nat.le_trans z2 hb.size
  clear hb hB2 z2 CE2
  obtain ⟨c0, c1, c2, c3, c4, c5, c6, c7, c8⟩ := CE3.out
  obtain ⟨gt, hg⟩ : ∃ g, g = w2.heap.size := ⟨_, rfl⟩
  rw [← hg] at hF ⊢
  clear hg
  have Hgt := hid (hF)
  obtain ⟨tz, t0, t1, t2⟩ := Hgt.out
  clear hF
  have e5 := HTX.out.2 0 (by decide)
  simp only [Nat.zero_mul, Nat.add_zero, List.getElem_cons_zero] at e5
  obtain ⟨e5, e6⟩ := e5
  go_wp2_with fail
  clear e5 e6
  clear HTX
  clear tz t0 t1 t2
  clear Hgt
  obtain ⟨W', hW'⟩ : ∃ W', W' = w3.alloc (.cells #[.int .i64 pw, .int .i64 ph, .slice pA pn pc, .int .i64 qw, .int .i64 qh, .slice qA qn qc, .int .i64 rw, .int .i64 rh, .slice rA rn rc] 26) := ⟨_, rfl⟩
  rw [← hW']
  have hb : Below w3.heap.size w3 W' := by rw [hW']; exact (Below.refl _ _).alloc (Nat.le_refl _) _
  have hF : NineAt w3.heap.size pw ph qw qh rw rh pA qA rA pn pc qn qc rn rc W' := by rw [hW']; exact NineAt.new _ _ _ _ _ _ _ _ _ _ _ _ _ _ _ _ _
  clear hW'
  obtain ⟨w4, rfl⟩ : ∃ w : World, w = W' := ⟨_, rfl⟩
  clear c0 c1 c2 c3 c4 c5 c6 c7 c8
  have CE4 := hid (CE3.out.below hb z3)
  have hB4 : Below w.heap.size w w4 := bnext hB3 hb
  have z4 : w.heap.size + 3 ≤ w4.heap.size := Nat.le_trans z3 hb.size
  clear hb hB3 z3 CE3
  obtain ⟨c0, c1, c2, c3, c4, c5, c6, c7, c8⟩ := CE4.out
  obtain ⟨gn, hg⟩ : ∃ g, g = w3.heap.size := ⟨_, rfl⟩
  rw [← hg] at hF ⊢
  clear hg
  have HN9 := hid (hF)
  obtain ⟨nz, n0, n1, n2, n3, n4, n5, n6, n7, n8⟩ := HN9.out
  clear hF
  clear c0 c1 c2 c3 c4 c5 c6 c7 c8 nz n0 n1 n2 n3 n4 n5 n6 n7 n8
  go_loopw [50] (fun iv wr => ∃ k : Nat, k ≤ 3 ∧ iv = .int .i64 k ∧ Below w4.heap.size w4 wr ∧ (0 < k → picFault ⟨pw, ph, pl⟩ = 0 ∧ pn ≤ 80) ∧ (1 < k → picFault ⟨qw, qh, ql⟩ = 0 ∧ qn ≤ 80) ∧ (2 < k → picFault ⟨rw, rh, rl⟩ = 0 ∧ rn ≤ 80)) (fun iv _ => 3 - (intOf iv).toNat)
  case atStart => exact ⟨0, by omega, rfl, Below.refl _ _, fun h => absurd h (by omega), fun h => absurd h (by omega), fun h => absurd h (by omega)⟩
  case round =>
  obtain ⟨k, hk, rfl, hbel, f1, f2, f3⟩ := hrel
  obtain ⟨c0, c1, c2, c3, c4, c5, c6, c7, c8⟩ := CE4.out
  obtain ⟨nz, n0, n1, n2, n3, n4, n5, n6, n7, n8⟩ := HN9.out
  have hb := hbel
  have hL := hbel
  clear hbel
  obtain ⟨w5, rfl⟩ : ∃ wo : World, wo = wr := ⟨_, rfl⟩
  clear c0 c1 c2 c3 c4 c5 c6 c7 c8 nz n0 n1 n2 n3 n4 n5 n6 n7 n8
  have HN9 := hid (HN9.out.below hb)
  have CE5 := hid (CE4.out.below hb z4)
  have hB5 : Below w.heap.size w w5 := bnext hB4 hb
  have z5 : w.heap.size + 3 ≤ w5.heap.size := Nat.le_trans z4 hb.size
  clear hb hB4 z4 CE4
  obtain ⟨c0, c1, c2, c3, c4, c5, c6, c7, c8⟩ := CE5.out
  obtain ⟨nz, n0, n1, n2, n3, n4, n5, n6, n7, n8⟩ := HN9.out
  have F1 := hid f1
  have F2 := hid f2
  have F3 := hid f3
  clear f1 f2 f3
  rcases (show k = 0 ∨ k = 1 ∨ k = 2 ∨ k = 3 by omega) with rfl | rfl | rfl | rfl
  · as_aux_lemma =>
    go_upto_region 8 with fail
    obtain ⟨W', hW'⟩ : ∃ W', W' = w5.alloc (.cells #[.int .i64 (pw), .int .i64 (ph), .slice (pA) (pn) (pc)] 26) := ⟨_, rfl⟩
    rw [← hW']
    have hb : Below w5.heap.size w5 W' := by rw [hW']; exact (Below.refl _ _).alloc (Nat.le_refl _) _
    have hF : PicAt w5.heap.size (pw) (ph) (pA) (pn) (pc) W' := by rw [hW']; exact PicAt.new _ _ _ _ _ _ _
    clear hW'
    obtain ⟨w6, rfl⟩ : ∃ w : World, w = W' := ⟨_, rfl⟩
    clear c0 c1 c2 c3 c4 c5 c6 c7 c8 nz n0 n1 n2 n3 n4 n5 n6 n7 n8
    have HN9 := hid (HN9.out.below hb)
    have hL := bnext hL hb
    have CE6 := hid (CE5.out.below hb z5)
    have hB6 : Below w.heap.size w w6 := bnext hB5 hb
    have z6 : w.heap.size + 3 ≤ w6.heap.size := Nat.le_trans z5 hb.size
    clear hb hB5 z5 CE5
    obtain ⟨c0, c1, c2, c3, c4, c5, c6, c7, c8⟩ := CE6.out
    obtain ⟨nz, n0, n1, n2, n3, n4, n5, n6, n7, n8⟩ := HN9.out
    obtain ⟨gv, hg⟩ : ∃ g, g = w5.heap.size := ⟨_, rfl⟩
    rw [← hg] at hF ⊢
    clear hg
    have Hgv := hid (hF)
    obtain ⟨vz, v0, v1, v2⟩ := Hgv.out
    clear hF
    go_wp2_with fail
    refine (lightpic_any ⟨⟨pw, ph, pl⟩, pA, pn, pc⟩ _).mono ?_
    rintro e w7 ⟨rfl, hb⟩
    clear c0 c1 c2 c3 c4 c5 c6 c7 c8 nz n0 n1 n2 n3 n4 n5 n6 n7 n8 vz v0 v1 v2
    have HN9 := hid (HN9.out.below hb)
    have Hgv := hid (Hgv.out.below hb)
    have hL := bnext hL hb
    have CE7 := hid (CE6.out.below hb z6)
    have hB7 : Below w.heap.size w w7 := bnext hB6 hb
    have z7 : w.heap.size + 3 ≤ w7.heap.size := Nat.le_trans z6 hb.size
    clear hb hB6 z6 CE6
    obtain ⟨c0, c1, c2, c3, c4, c5, c6, c7, c8⟩ := CE7.out
    obtain ⟨nz, n0, n1, n2, n3, n4, n5, n6, n7, n8⟩ := HN9.out
    obtain ⟨vz, v0, v1, v2⟩ := Hgv.out
    cases hC : decide (pn ≤ 80)
    case false => (go_wp2_with fail; go_ret; exact ⟨rfl, hB7⟩)
    have nC := of_decide_eq_true hC
    clear hC
    go_wp2_with fail
    refine (piccheck_any ⟨⟨pw, ph, pl⟩, pA, pn, pc⟩ _ (H_p.out.below hB7) (by show pn ≤ 100; omega)).mono ?_
    rintro e w8 ⟨rfl, hb⟩
    clear c0 c1 c2 c3 c4 c5 c6 c7 c8 nz n0 n1 n2 n3 n4 n5 n6 n7 n8 vz v0 v1 v2
    have HN9 := hid (HN9.out.below hb)
    have Hgv := hid (Hgv.out.below hb)
    have hL := bnext hL hb
    have CE8 := hid (CE7.out.below hb z7)
    have hB8 : Below w.heap.size w w8 := bnext hB7 hb
    have z8 : w.heap.size + 3 ≤ w8.heap.size := Nat.le_trans z7 hb.size
    clear hb hB7 z7 CE7
    obtain ⟨c0, c1, c2, c3, c4, c5, c6, c7, c8⟩ := CE8.out
    obtain ⟨nz, n0, n1, n2, n3, n4, n5, n6, n7, n8⟩ := HN9.out
    obtain ⟨vz, v0, v1, v2⟩ := Hgv.out
    obtain ⟨F, hF⟩ : ∃ F, picFault ⟨pw, ph, pl⟩ = F := ⟨_, rfl⟩
    simp only [hF]
    have HF_p := hid hF
    clear hF
    cases F
    case succ F => (rw [errV_pos (Nat.succ_ne_zero F)]; go_wp2_with fail; go_ret; exact ⟨rfl, hB8⟩)
    rw [errV_zero]
    go_wp2_with fail
    go_roundw
    case rel => exact ⟨1, by omega, by go_num, hL, fun _ => ⟨HF_p.out, nC⟩, fun h => absurd h (by omega), fun h => absurd h (by omega)⟩
    case measure => simp [intOf]
  · as_aux_lemma =>
    go_upto_region 8 with fail
    obtain ⟨W', hW'⟩ : ∃ W', W' = w5.alloc (.cells #[.int .i64 (qw), .int .i64 (qh), .slice (qA) (qn) (qc)] 26) := ⟨_, rfl⟩
    rw [← hW']
    have hb : Below w5.heap.size w5 W' := by rw [hW']; exact (Below.refl _ _).alloc (Nat.le_refl _) _
    have hF : PicAt w5.heap.size (qw) (qh) (qA) (qn) (qc) W' := by rw [hW']; exact PicAt.new _ _ _ _ _ _ _
    clear hW'
    obtain ⟨w6, rfl⟩ : ∃ w : World, w = W' := ⟨_, rfl⟩
    clear c0 c1 c2 c3 c4 c5 c6 c7 c8 nz n0 n1 n2 n3 n4 n5 n6 n7 n8
    have HN9 := hid (HN9.out.below hb)
    have hL := bnext hL hb
    have CE6 := hid (CE5.out.below hb z5)
    have hB6 : Below w.heap.size w w6 := bnext hB5 hb
    have z6 : w.heap.size + 3 ≤ w6.heap.size := Nat.le_trans z5 hb.size
    clear hb hB5 z5 CE5
    obtain ⟨c0, c1, c2, c3, c4, c5, c6, c7, c8⟩ := CE6.out
    obtain ⟨nz, n0, n1, n2, n3, n4, n5, n6, n7, n8⟩ := HN9.out
    obtain ⟨gv, hg⟩ : ∃ g, g = w5.heap.size := ⟨_, rfl⟩
    rw [← hg] at hF ⊢
    clear hg
    have Hgv := hid (hF)
    obtain ⟨vz, v0, v1, v2⟩ := Hgv.out
    clear hF
    go_wp2_with fail
    refine (lightpic_any ⟨⟨qw, qh, ql⟩, qA, qn, qc⟩ _).mono ?_
    rintro e w7 ⟨rfl, hb⟩
    clear c0 c1 c2 c3 c4 c5 c6 c7 c8 nz n0 n1 n2 n3 n4 n5 n6 n7 n8 vz v0 v1 v2
    have HN9 := hid (HN9.out.below hb)
    have Hgv := hid (Hgv.out.below hb)
    have hL := bnext hL hb
    have CE7 := hid (CE6.out.below hb z6)
    have hB7 : Below w.heap.size w w7 := bnext hB6 hb
    have z7 : w.heap.size + 3 ≤ w7.heap.size := Nat.le_trans z6 hb.size
    clear hb hB6 z6 CE6
    obtain ⟨c0, c1, c2, c3, c4, c5, c6, c7, c8⟩ := CE7.out
    obtain ⟨nz, n0, n1, n2, n3, n4, n5, n6, n7, n8⟩ := HN9.out
    obtain ⟨vz, v0, v1, v2⟩ := Hgv.out
    cases hC : decide (qn ≤ 80)
    case false => (go_wp2_with fail; go_ret; exact ⟨rfl, hB7⟩)
    have nC := of_decide_eq_true hC
    clear hC
    go_wp2_with fail
    refine (piccheck_any ⟨⟨qw, qh, ql⟩, qA, qn, qc⟩ _ (H_q.out.below hB7) (by show qn ≤ 100; omega)).mono ?_
    rintro e w8 ⟨rfl, hb⟩
    clear c0 c1 c2 c3 c4 c5 c6 c7 c8 nz n0 n1 n2 n3 n4 n5 n6 n7 n8 vz v0 v1 v2
    have HN9 := hid (HN9.out.below hb)
    have Hgv := hid (Hgv.out.below hb)
    have hL := bnext hL hb
    have CE8 := hid (CE7.out.below hb z7)
    have hB8 : Below w.heap.size w w8 := bnext hB7 hb
    have z8 : w.heap.size + 3 ≤ w8.heap.size := Nat.le_trans z7 hb.size
    clear hb hB7 z7 CE7
    obtain ⟨c0, c1, c2, c3, c4, c5, c6, c7, c8⟩ := CE8.out
    obtain ⟨nz, n0, n1, n2, n3, n4, n5, n6, n7, n8⟩ := HN9.out
    obtain ⟨vz, v0, v1, v2⟩ := Hgv.out
    obtain ⟨F, hF⟩ : ∃ F, picFault ⟨qw, qh, ql⟩ = F := ⟨_, rfl⟩
    simp only [hF]
    have HF_q := hid hF
    clear hF
    cases F
    case succ F => (rw [errV_pos (Nat.succ_ne_zero F)]; go_wp2_with fail; go_ret; exact ⟨rfl, hB8⟩)
    rw [errV_zero]
    go_wp2_with fail
    go_roundw
    case rel => exact ⟨2, by omega, by go_num, hL, fun _ => F1.out (by omega), fun _ => ⟨HF_q.out, nC⟩, fun h => absurd h (by omega)⟩
    case measure => simp [intOf]
  · as_aux_lemma =>
    go_upto_region 8 with fail
    obtain ⟨W', hW'⟩ : ∃ W', W' = w5.alloc (.cells #[.int .i64 (rw), .int .i64 (rh), .slice (rA) (rn) (rc)] 26) := ⟨_, rfl⟩
    rw [← hW']
    have hb : Below w5.heap.size w5 W' := by rw [hW']; exact (Below.refl _ _).alloc (Nat.le_refl _) _
    have hF : PicAt w5.heap.size (rw) (rh) (rA) (rn) (rc) W' := by rw [hW']; exact PicAt.new _ _ _ _ _ _ _
    clear hW'
    obtain ⟨w6, rfl⟩ : ∃ w : World, w = W' := ⟨_, rfl⟩
    clear c0 c1 c2 c3 c4 c5 c6 c7 c8 nz n0 n1 n2 n3 n4 n5 n6 n7 n8
    have HN9 := hid (HN9.out.below hb)
    have hL := bnext hL hb
    have CE6 := hid (CE5.out.below hb z5)
    have hB6 : Below w.heap.size w w6 := bnext hB5 hb
    have z6 : w.heap.size + 3 ≤ w6.heap.size := Nat.le_trans z5 hb.size
    clear hb hB5 z5 CE5
    obtain ⟨c0, c1, c2, c3, c4, c5, c6, c7, c8⟩ := CE6.out
    obtain ⟨nz, n0, n1, n2, n3, n4, n5, n6, n7, n8⟩ := HN9.out
    obtain ⟨gv, hg⟩ : ∃ g, g = w5.heap.size := ⟨_, rfl⟩
    rw [← hg] at hF ⊢
    clear hg
    have Hgv := hid (hF)
    obtain ⟨vz, v0, v1, v2⟩ := Hgv.out
    clear hF
    go_wp2_with fail
    refine (lightpic_any ⟨⟨rw, rh, rl⟩, rA, rn, rc⟩ _).mono ?_
    rintro e w7 ⟨rfl, hb⟩
    clear c0 c1 c2 c3 c4 c5 c6 c7 c8 nz n0 n1 n2 n3 n4 n5 n6 n7 n8 vz v0 v1 v2
    have HN9 := hid (HN9.out.below hb)
    have Hgv := hid (Hgv.out.below hb)
    have hL := bnext hL hb
    have CE7 := hid (CE6.out.below hb z6)
    have hB7 : Below w.heap.size w w7 := bnext hB6 hb
    have z7 : w.heap.size + 3 ≤ w7.heap.size := Nat.le_trans z6 hb.size
    clear hb hB6 z6 CE6
    obtain ⟨c0, c1, c2, c3, c4, c5, c6, c7, c8⟩ := CE7.out
    obtain ⟨nz, n0, n1, n2, n3, n4, n5, n6, n7, n8⟩ := HN9.out
    obtain ⟨vz, v0, v1, v2⟩ := Hgv.out
    cases hC : decide (rn ≤ 80)
    case false => (go_wp2_with fail; go_ret; exact ⟨rfl, hB7⟩)
    have nC := of_decide_eq_true hC
    clear hC
    go_wp2_with fail
    refine (piccheck_any ⟨⟨rw, rh, rl⟩, rA, rn, rc⟩ _ (H_r.out.below hB7) (by show rn ≤ 100; omega)).mono ?_
    rintro e w8 ⟨rfl, hb⟩
    clear c0 c1 c2 c3 c4 c5 c6 c7 c8 nz n0 n1 n2 n3 n4 n5 n6 n7 n8 vz v0 v1 v2
    have HN9 := hid (HN9.out.below hb)
    have Hgv := hid (Hgv.out.below hb)
    have hL := bnext hL hb
    have CE8 := hid (CE7.out.below hb z7)
    have hB8 : Below w.heap.size w w8 := bnext hB7 hb
    have z8 : w.heap.size + 3 ≤ w8.heap.size := Nat.le_trans z7 hb.size
    clear hb hB7 z7 CE7
    obtain ⟨c0, c1, c2, c3, c4, c5, c6, c7, c8⟩ := CE8.out
    obtain ⟨nz, n0, n1, n2, n3, n4, n5, n6, n7, n8⟩ := HN9.out
    obtain ⟨vz, v0, v1, v2⟩ := Hgv.out
    obtain ⟨F, hF⟩ : ∃ F, picFault ⟨rw, rh, rl⟩ = F := ⟨_, rfl⟩
    simp only [hF]
    have HF_r := hid hF
    clear hF
    cases F
    case succ F => (rw [errV_pos (Nat.succ_ne_zero F)]; go_wp2_with fail; go_ret; exact ⟨rfl, hB8⟩)
    rw [errV_zero]
    go_wp2_with fail
    go_roundw
    case rel => exact ⟨3, by omega, by go_num, hL, fun _ => F1.out (by omega), fun _ => F2.out (by omega), fun _ => ⟨HF_r.out, nC⟩⟩
    case measure => simp [intOf]
  obtain ⟨f1, nP⟩ := F1.out (by omega)
  obtain ⟨f2, nQ⟩ := F2.out (by omega)
  obtain ⟨f3, nR⟩ := F3.out (by omega)
  have fp := hid (picFault_fine.1 f1)
  have fq := hid (picFault_fine.1 f2)
  have fr := hid (picFault_fine.1 f3)
  clear f1 f2 f3 F1 F2 F3 hL
  clear nz n0 n1 n2 n3 n4 n5 n6 n7 n8
  clear HN9
  by_cases x1 : x < -20
  · (go_wp2_with fail; go_ret; exact ⟨rfl, hB5⟩)
  by_cases x2 : 20 < x
  · (go_wp2_with fail; go_ret; exact ⟨rfl, hB5⟩)
  by_cases y1 : y < -20
  · (go_wp2_with fail; go_ret; exact ⟨rfl, hB5⟩)
  by_cases y2 : 20 < y
  · (go_wp2_with fail; go_ret; exact ⟨rfl, hB5⟩)
  by_cases i1 : i < -20
  · (go_wp2_with fail; go_ret; exact ⟨rfl, hB5⟩)
  by_cases i2 : 20 < i
  · (go_wp2_with fail; go_ret; exact ⟨rfl, hB5⟩)
  by_cases j1 : j < -20
  · (go_wp2_with fail; go_ret; exact ⟨rfl, hB5⟩)
  by_cases j2 : 20 < j
  · (go_wp2_with fail; go_ret; exact ⟨rfl, hB5⟩)
  have xb : -100 ≤ x ∧ x ≤ 100 := by omega
  have yb : -100 ≤ y ∧ y ≤ 100 := by omega
  have ib : -100 ≤ i ∧ i ≤ 100 := by omega
  have jb : -100 ≤ j ∧ j ≤ 100 := by omega
  go_wp2_with fail
  obtain ⟨l1, hl1⟩ : ∃ l, (changeP addP ⟨pw, ph, pl⟩ ⟨qw, qh, ql⟩ x y).p = l := ⟨_, rfl⟩
  have e1 : changeP addP ⟨pw, ph, pl⟩ ⟨qw, qh, ql⟩ x y = ⟨pw, ph, l1⟩ := by rw [← hl1]; rfl
  have g1 : PicFine ⟨pw, ph, l1⟩ := by rw [← e1]; exact change_fine (fun a b _ _ => addP_fine a b) fp.out fq.out
  clear hl1
  obtain ⟨l2, hl2⟩ : ∃ l, (changeP addP ⟨pw, ph, l1⟩ ⟨rw, rh, rl⟩ i j).p = l := ⟨_, rfl⟩
  have e2 : changeP addP ⟨pw, ph, l1⟩ ⟨rw, rh, rl⟩ i j = ⟨pw, ph, l2⟩ := by rw [← hl2]; rfl
  have g2 : PicFine ⟨pw, ph, l2⟩ := by rw [← e2]; exact change_fine (fun a b _ _ => addP_fine a b) g1 fr.out
  clear hl2
  obtain ⟨l3, hl3⟩ : ∃ l, (changeP addP ⟨pw, ph, pl⟩ ⟨rw, rh, rl⟩ i j).p = l := ⟨_, rfl⟩
  have e3 : changeP addP ⟨pw, ph, pl⟩ ⟨rw, rh, rl⟩ i j = ⟨pw, ph, l3⟩ := by rw [← hl3]; rfl
  have g3 : PicFine ⟨pw, ph, l3⟩ := by rw [← e3]; exact change_fine (fun a b _ _ => addP_fine a b) fp.out fr.out
  clear hl3
  have e4 : changeP addP ⟨pw, ph, l3⟩ ⟨qw, qh, ql⟩ x y = ⟨pw, ph, l2⟩ := by rw [← e3, ← add_comm2, e1, e2]
  obtain ⟨l5, hl5⟩ : ∃ l, (changeP putP ⟨pw, ph, pl⟩ ⟨qw, qh, ql⟩ x y).p = l := ⟨_, rfl⟩
  have e5 : changeP putP ⟨pw, ph, pl⟩ ⟨qw, qh, ql⟩ x y = ⟨pw, ph, l5⟩ := by rw [← hl5]; rfl
  have g5 : PicFine ⟨pw, ph, l5⟩ := by rw [← e5]; exact change_fine (fun a b _ hb => hb) fp.out fq.out
  clear hl5
  have e6 : changeP putP ⟨pw, ph, l5⟩ ⟨qw, qh, ql⟩ x y = ⟨pw, ph, l5⟩ := by have h := put_twice ⟨pw, ph, pl⟩ ⟨qw, qh, ql⟩ x y; rw [e5] at h; exact h
  have KS := hid (fun W (h : Below w5.heap.size w5 W) => CE5.out.below h z5)
  have hp := fun W (h : Below w5.heap.size w5 W) => H_p.out.below (bnext hB5 h)
  have hq := fun W (h : Below w5.heap.size w5 W) => H_q.out.below (bnext hB5 h)
  have hr := fun W (h : Below w5.heap.size w5 W) => H_r.out.below (bnext hB5 h)
  have C1 := hid (fun W (h : Below w5.heap.size w5 W) => add_A (r := ⟨⟨pw, ph, pl⟩, pA, pn, pc⟩) (s := ⟨⟨qw, qh, ql⟩, qA, qn, qc⟩) e1 fp.out fq.out xb yb W (hp W h) (hq W h))
  have C2 := hid (fun W A c (h : Below w5.heap.size w5 W) (hl : Pixs W A l1.length l1) => add_A (r := ⟨⟨pw, ph, l1⟩, A, l1.length, c⟩) (s := ⟨⟨rw, rh, rl⟩, rA, rn, rc⟩) e2 g1 fr.out ib jb W hl (hr W h))
  have C3 := hid (fun W (h : Below w5.heap.size w5 W) => add_A (r := ⟨⟨pw, ph, pl⟩, pA, pn, pc⟩) (s := ⟨⟨rw, rh, rl⟩, rA, rn, rc⟩) e3 fp.out fr.out ib jb W (hp W h) (hr W h))
  have C4 := hid (fun W A c (h : Below w5.heap.size w5 W) (hl : Pixs W A l3.length l3) => add_A (r := ⟨⟨pw, ph, l3⟩, A, l3.length, c⟩) (s := ⟨⟨qw, qh, ql⟩, qA, qn, qc⟩) e4 g3 fq.out xb yb W hl (hq W h))
  have C5 := hid (fun W (h : Below w5.heap.size w5 W) => put_A (r := ⟨⟨pw, ph, pl⟩, pA, pn, pc⟩) (s := ⟨⟨qw, qh, ql⟩, qA, qn, qc⟩) e5 fp.out fq.out xb yb W (hp W h) (hq W h))
  have C6 := hid (fun W A c (h : Below w5.heap.size w5 W) (hl : Pixs W A l5.length l5) => put_A (r := ⟨⟨pw, ph, l5⟩, A, l5.length, c⟩) (s := ⟨⟨qw, qh, ql⟩, qA, qn, qc⟩) e6 g5 fq.out xb yb W hl (hq W h))
  have CS := hid (fun W k A c (h : Below w5.heap.size w5 W) (hl : Pixs W A (addN ⟨pw, ph, pl⟩ ⟨qw, qh, ql⟩ x y k).p.length (addN ⟨pw, ph, pl⟩ ⟨qw, qh, ql⟩ x y k).p) => add_N (qA := qA) (qn := qn) (qc := qc) k A c fp.out fq.out xb yb W hl (hq W h))
  have HE5 := hid e5
  have G2 := hid g2
  have G5 := hid g5
  clear e1 e2 e3 e4 e5 e6 g1 g2 g3 g5 hp hq hr
  have hV : Below w5.heap.size w5 w5 := Below.refl _ _
  go_cut [19] (fun t wi => NewPicR w5 pw ph l2 t wi)
  case first =>
   as_aux_lemma =>
    have HBW : Below w5.heap.size w5 w5 := Below.refl _ _
    clear c0 c1 c2 c3 c4 c5 c6 c7 c8
    go_region_held3 (fun W => W.cell? ⟨w.heap.size, 0, none⟩ = some (.int .i64 pw) ∧ W.cell? ⟨w.heap.size, 1, none⟩ = some (.int .i64 ph) ∧ W.cell? ⟨w.heap.size, 2, none⟩ = some (.slice pA pn pc) ∧ W.cell? ⟨w.heap.size + 1, 0, none⟩ = some (.int .i64 qw) ∧ W.cell? ⟨w.heap.size + 1, 1, none⟩ = some (.int .i64 qh) ∧ W.cell? ⟨w.heap.size + 1, 2, none⟩ = some (.slice qA qn qc) ∧ W.cell? ⟨w.heap.size + 1 + 1, 0, none⟩ = some (.int .i64 rw) ∧ W.cell? ⟨w.heap.size + 1 + 1, 1, none⟩ = some (.int .i64 rh) ∧ W.cell? ⟨w.heap.size + 1 + 1, 2, none⟩ = some (.slice rA rn rc)) (first | exact KS.out _ HBW | exact KS.out _ (by have hB := HBW; (repeat (first | with_reducible exact hB | with_reducible refine Below.alloc ?_ (by have := hB.size; simp; try omega) _ | with_reducible refine Below.setCell ?_ (by have := hB.size; simp; try omega) _ | with_reducible refine below_drewN ?_ _ | with_reducible refine Below.drew ?_))) | go_keep)
      (first
        | (go_at_call 19; (with_reducible refine (C1.out _ (by first | exact HBW | (have hB := HBW; (repeat (first | with_reducible exact hB | with_reducible refine Below.alloc ?_ (by have := hB.size; simp; try omega) _ | with_reducible refine Below.setCell ?_ (by have := hB.size; simp; try omega) _ | with_reducible refine below_drewN ?_ _ | with_reducible refine Below.drew ?_))))).mono ?_); rintro e w' ⟨b1, o1, k1, rfl, hp1, hn1, hm1, hbw⟩; have hbz := hbw.size; (try simp at hbz); have HBW : Below w5.heap.size w5 w' := bnext (by have hB := HBW; (repeat (first | with_reducible exact hB | with_reducible refine Below.alloc ?_ (by have := hB.size; simp; try omega) _ | with_reducible refine Below.setCell ?_ (by have := hB.size; simp; try omega) _ | with_reducible refine below_drewN ?_ _ | with_reducible refine Below.drew ?_))) hbw; obtain ⟨hbc, hbf⟩ := bcell hbw; (try (have lt2 : w5.heap.size < w'.heap.size := (by omega))))
        | (go_at_call 19; (with_reducible refine (C2.out _ _ _ (by first | exact HBW | (have hB := HBW; (repeat (first | with_reducible exact hB | with_reducible refine Below.alloc ?_ (by have := hB.size; simp; try omega) _ | with_reducible refine Below.setCell ?_ (by have := hB.size; simp; try omega) _ | with_reducible refine below_drewN ?_ _ | with_reducible refine Below.drew ?_)))) (by first | exact hp1 | exact hp1.below ((Below.refl _ _).alloc (Nat.le_refl _) _))).mono ?_); rintro e w' ⟨b2, o2, k2, rfl, hp2, hn2, hm2, hbw⟩; have hbz2 := hbw.size; (try simp at hbz2); have HBW : Below w5.heap.size w5 w' := bnext (by have hB := HBW; (repeat (first | with_reducible exact hB | with_reducible refine Below.alloc ?_ (by have := hB.size; simp; try omega) _ | with_reducible refine Below.setCell ?_ (by have := hB.size; simp; try omega) _ | with_reducible refine below_drewN ?_ _ | with_reducible refine Below.drew ?_))) hbw; obtain ⟨hbc2, hbf2⟩ := bcell hbw))
    all_goals (go_wp2_with fail)
    all_goals go_meet
    all_goals (try simp at hn2)
    all_goals (first | exact newpic_new (by have hB := HBW; (repeat (first | with_reducible exact hB | with_reducible refine Below.alloc ?_ (by have := hB.size; simp; try omega) _ | with_reducible refine Below.setCell ?_ (by have := hB.size; simp; try omega) _ | with_reducible refine below_drewN ?_ _ | with_reducible refine Below.drew ?_))) hp2 | exact newpic_set (by have hB := HBW; (repeat (first | with_reducible exact hB | with_reducible refine Below.alloc ?_ (by have := hB.size; simp; try omega) _ | with_reducible refine Below.setCell ?_ (by have := hB.size; simp; try omega) _ | with_reducible refine below_drewN ?_ _ | with_reducible refine Below.drew ?_))) (by first | exact Nat.le_refl _ | omega | (have := HBW.size; omega)) (by first | omega | (simp; omega)) (by go_simp) (by go_simp) (by go_simp) hp2 (by first | omega | (have := HBW.size; omega)))
  case rest =>
  obtain ⟨ga, ba, oa, ka, rfl, hP, hX, hb⟩ := hcut
  obtain ⟨w6, rfl⟩ : ∃ wo : World, wo = wc := ⟨_, rfl⟩
  clear c0 c1 c2 c3 c4 c5 c6 c7 c8
  have hV := bnext hV hb
  have CE6 := hid (CE5.out.below hb z5)
  have hB6 : Below w.heap.size w w6 := bnext hB5 hb
  have z6 : w.heap.size + 3 ≤ w6.heap.size := Nat.le_trans z5 hb.size
  clear hb hB5 z5 CE5
  obtain ⟨c0, c1, c2, c3, c4, c5, c6, c7, c8⟩ := CE6.out
  have HGa := hid (hP)
  obtain ⟨az, ae0, ae1, ae2⟩ := HGa.out
  have HXa := hid (hX)
  clear hP hX
  have KS1 := KS
  have KS := hid (fun W h => KS1.out W (bnext hV h))
  have D3 := hid (fun W h => C3.out W (bnext hV h))
  have D4 := hid (fun W A c h => C4.out W A c (bnext hV h))
  clear C1 C2 C3 C4
  go_wp2_with fail
  go_cut [20] (fun t wi => NewPicR w6 pw ph l2 t wi)
  case first =>
   as_aux_lemma =>
    have HBW : Below w6.heap.size w6 w6 := Below.refl _ _
    clear c0 c1 c2 c3 c4 c5 c6 c7 c8
    go_region_held3 (fun W => W.cell? ⟨w.heap.size, 0, none⟩ = some (.int .i64 pw) ∧ W.cell? ⟨w.heap.size, 1, none⟩ = some (.int .i64 ph) ∧ W.cell? ⟨w.heap.size, 2, none⟩ = some (.slice pA pn pc) ∧ W.cell? ⟨w.heap.size + 1, 0, none⟩ = some (.int .i64 qw) ∧ W.cell? ⟨w.heap.size + 1, 1, none⟩ = some (.int .i64 qh) ∧ W.cell? ⟨w.heap.size + 1, 2, none⟩ = some (.slice qA qn qc) ∧ W.cell? ⟨w.heap.size + 1 + 1, 0, none⟩ = some (.int .i64 rw) ∧ W.cell? ⟨w.heap.size + 1 + 1, 1, none⟩ = some (.int .i64 rh) ∧ W.cell? ⟨w.heap.size + 1 + 1, 2, none⟩ = some (.slice rA rn rc)) (first | exact KS.out _ HBW | exact KS.out _ (by have hB := HBW; (repeat (first | with_reducible exact hB | with_reducible refine Below.alloc ?_ (by have := hB.size; simp; try omega) _ | with_reducible refine Below.setCell ?_ (by have := hB.size; simp; try omega) _ | with_reducible refine below_drewN ?_ _ | with_reducible refine Below.drew ?_))) | go_keep)
      (first
        | (go_at_call 19; (with_reducible refine (D3.out _ (by first | exact HBW | (have hB := HBW; (repeat (first | with_reducible exact hB | with_reducible refine Below.alloc ?_ (by have := hB.size; simp; try omega) _ | with_reducible refine Below.setCell ?_ (by have := hB.size; simp; try omega) _ | with_reducible refine below_drewN ?_ _ | with_reducible refine Below.drew ?_))))).mono ?_); rintro e w' ⟨b1, o1, k1, rfl, hp1, hn1, hm1, hbw⟩; have hbz := hbw.size; (try simp at hbz); have HBW : Below w6.heap.size w6 w' := bnext (by have hB := HBW; (repeat (first | with_reducible exact hB | with_reducible refine Below.alloc ?_ (by have := hB.size; simp; try omega) _ | with_reducible refine Below.setCell ?_ (by have := hB.size; simp; try omega) _ | with_reducible refine below_drewN ?_ _ | with_reducible refine Below.drew ?_))) hbw; obtain ⟨hbc, hbf⟩ := bcell hbw; (try (have lt2 : w6.heap.size < w'.heap.size := (by omega))))
        | (go_at_call 19; (with_reducible refine (D4.out _ _ _ (by first | exact HBW | (have hB := HBW; (repeat (first | with_reducible exact hB | with_reducible refine Below.alloc ?_ (by have := hB.size; simp; try omega) _ | with_reducible refine Below.setCell ?_ (by have := hB.size; simp; try omega) _ | with_reducible refine below_drewN ?_ _ | with_reducible refine Below.drew ?_)))) (by first | exact hp1 | exact hp1.below ((Below.refl _ _).alloc (Nat.le_refl _) _))).mono ?_); rintro e w' ⟨b2, o2, k2, rfl, hp2, hn2, hm2, hbw⟩; have hbz2 := hbw.size; (try simp at hbz2); have HBW : Below w6.heap.size w6 w' := bnext (by have hB := HBW; (repeat (first | with_reducible exact hB | with_reducible refine Below.alloc ?_ (by have := hB.size; simp; try omega) _ | with_reducible refine Below.setCell ?_ (by have := hB.size; simp; try omega) _ | with_reducible refine below_drewN ?_ _ | with_reducible refine Below.drew ?_))) hbw; obtain ⟨hbc2, hbf2⟩ := bcell hbw))
    all_goals (go_wp2_with fail)
    all_goals go_meet
    all_goals (try simp at hn2)
    all_goals (first | exact newpic_new (by have hB := HBW; (repeat (first | with_reducible exact hB | with_reducible refine Below.alloc ?_ (by have := hB.size; simp; try omega) _ | with_reducible refine Below.setCell ?_ (by have := hB.size; simp; try omega) _ | with_reducible refine below_drewN ?_ _ | with_reducible refine Below.drew ?_))) hp2 | exact newpic_set (by have hB := HBW; (repeat (first | with_reducible exact hB | with_reducible refine Below.alloc ?_ (by have := hB.size; simp; try omega) _ | with_reducible refine Below.setCell ?_ (by have := hB.size; simp; try omega) _ | with_reducible refine below_drewN ?_ _ | with_reducible refine Below.drew ?_))) (by first | exact Nat.le_refl _ | omega | (have := HBW.size; omega)) (by first | omega | (simp; omega)) (by go_simp) (by go_simp) (by go_simp) hp2 (by first | omega | (have := HBW.size; omega)))
  case rest =>
  obtain ⟨gb, bb, ob, kb, rfl, hP, hX, hb⟩ := hcut
  obtain ⟨w7, rfl⟩ : ∃ wo : World, wo = wc := ⟨_, rfl⟩
  clear c0 c1 c2 c3 c4 c5 c6 c7 c8 az ae0 ae1 ae2
  have HGa := hid (HGa.out.below hb)
  have HXa := hid (HXa.out.below hb)
  have hV := bnext hV hb
  have CE7 := hid (CE6.out.below hb z6)
  have hB7 : Below w.heap.size w w7 := bnext hB6 hb
  have z7 : w.heap.size + 3 ≤ w7.heap.size := Nat.le_trans z6 hb.size
  clear hb hB6 z6 CE6
  obtain ⟨c0, c1, c2, c3, c4, c5, c6, c7, c8⟩ := CE7.out
  obtain ⟨az, ae0, ae1, ae2⟩ := HGa.out
  have HGb := hid (hP)
  obtain ⟨bz, be0, be1, be2⟩ := HGb.out
  have HXb := hid (hX)
  clear hP hX
  clear D3 D4 KS KS1
  have hlp := pic_len fp.out
  simp only at hlp
  have hpn := H_p.out.1
  obtain ⟨pb, po, rfl, -, -⟩ := H_p.out.open_ (by omega)
  have HPN := hid hpn
  go_upto_region 16 with fail
  obtain ⟨W', hW'⟩ : ∃ W', W' = w7.alloc (.cells #[.int .i64 pw, .int .i64 ph, .slice (some ⟨pb, po, none⟩) pn pc] 26) := ⟨_, rfl⟩
  rw [← hW']
  have hS : SAt w7.heap.size pw ph pb po pn pc pl W' := by rw [hW']; exact SAt.new _ (H_p.out.below hB7) (by omega)
  have hbS : Below w7.heap.size w7 W' := by rw [hW']; exact (Below.refl _ _).alloc (Nat.le_refl _) _
  clear hW' hpn
  obtain ⟨gs, hgs⟩ : ∃ g, g = w7.heap.size := ⟨_, rfl⟩
  have hgs2 : w7.heap.size ≤ gs := by omega
  rw [← hgs] at hS ⊢
  clear hgs
  have HS0 := hid hS
  clear hS
  go_wp2_with fail
  clear c0 c1 c2 c3 c4 c5 c6 c7 c8 az ae0 ae1 ae2 bz be0 be1 be2
  go_loopw [22] (fun kv wr => ∃ k : Nat, k ≤ 256 ∧ kv = .int .i64 k ∧ (∃ b o n c : Nat, SAt gs pw ph b o n c (addN ⟨pw, ph, pl⟩ ⟨qw, qh, ql⟩ x y k).p wr) ∧ Below w7.heap.size w7 wr) (fun kv _ => 256 - (intOf kv).toNat)
  case atStart => exact ⟨0, by omega, rfl, ⟨pb, po, pn, pc, HS0.out⟩, hbS⟩
  case round =>
  clear HS0 hbS
  obtain ⟨k, hk, rfl, ⟨b0, o0, n0, k0, hS⟩, hbel⟩ := hrel
  obtain rfl := hS.2.2.1.1
  obtain ⟨c0, c1, c2, c3, c4, c5, c6, c7, c8⟩ := CE7.out
  obtain ⟨az, ae0, ae1, ae2⟩ := HGa.out
  obtain ⟨bz, be0, be1, be2⟩ := HGb.out
  have hb := hbel
  have hL := hbel
  clear hbel
  obtain ⟨w8, rfl⟩ : ∃ wo : World, wo = wr := ⟨_, rfl⟩
  clear c0 c1 c2 c3 c4 c5 c6 c7 c8 az ae0 ae1 ae2 bz be0 be1 be2
  have HGa := hid (HGa.out.below hb)
  have HXa := hid (HXa.out.below hb)
  have HGb := hid (HGb.out.below hb)
  have HXb := hid (HXb.out.below hb)
  have hV := bnext hV hb
  have CE8 := hid (CE7.out.below hb z7)
  have hB8 : Below w.heap.size w w8 := bnext hB7 hb
  have z8 : w.heap.size + 3 ≤ w8.heap.size := Nat.le_trans z7 hb.size
  clear hb hB7 z7 CE7
  obtain ⟨c0, c1, c2, c3, c4, c5, c6, c7, c8⟩ := CE8.out
  obtain ⟨az, ae0, ae1, ae2⟩ := HGa.out
  obtain ⟨bz, be0, be1, be2⟩ := HGb.out
  have HS := hid (hS)
  clear hS
  obtain ⟨⟨sz, s0, s1, s2⟩, sf, sp, sne⟩ := HS.out
  by_cases hk2 : k < 256
  · as_aux_lemma =>
    go_wp2_with fail
    refine (CS.out _ k _ _ hV sp).mono ?_
    rintro e w9 ⟨b2, o2, k2, rfl, hp2, hn2, hm2, hb⟩
    clear c0 c1 c2 c3 c4 c5 c6 c7 c8 az ae0 ae1 ae2 bz be0 be1 be2
    have HGa := hid (HGa.out.below hb)
    have HXa := hid (HXa.out.below hb)
    have HGb := hid (HGb.out.below hb)
    have HXb := hid (HXb.out.below hb)
    have HS := hid (HS.out.below hb)
    have hV := bnext hV hb
    have hL := bnext hL hb
    have CE9 := hid (CE8.out.below hb z8)
    have hB9 : Below w.heap.size w w9 := bnext hB8 hb
    have z9 : w.heap.size + 3 ≤ w9.heap.size := Nat.le_trans z8 hb.size
    clear hb hB8 z8 CE8
    obtain ⟨c0, c1, c2, c3, c4, c5, c6, c7, c8⟩ := CE9.out
    obtain ⟨az, ae0, ae1, ae2⟩ := HGa.out
    obtain ⟨bz, be0, be1, be2⟩ := HGb.out
    have hne : b2 ≠ gs := by omega
    have HSS := hid (HS.out.set (c2 := k2) hp2 hne)
    have HLL := hid (((hL.setCell (p := ⟨gs, 0, none⟩) hgs2 (.int .i64 pw)).setCell (p := ⟨gs, 1, none⟩) hgs2 (.int .i64 ph)).setCell (p := ⟨gs, 2, none⟩) hgs2 (.slice (some ⟨b2, o2, none⟩) (addN ⟨pw, ph, pl⟩ ⟨qw, qh, ql⟩ x y (k + 1)).p.length k2))
    clear s0 s1 s2 sf sp sne
    obtain ⟨⟨sz2, s0, s1, s2⟩, sf, -, -⟩ := HS.out
    have HP2 := hid hp2
    clear hp2 hne
    go_wp2_with fail
    go_roundw
    case rel => exact ⟨k + 1, by omega, by go_num, ⟨b2, o2, _, k2, HSS.out⟩, HLL.out⟩
    case measure => simp [intOf]; omega
  obtain rfl : k = 256 := by omega
  have e256 := addN_256 (q := ⟨qw, qh, ql⟩) (x := x) (y := y) fp.out
  simp only [e256] at HS s0 s1 s2 sp ⊢
  clear e256 hk2 hk
  go_wp2_with fail
  refine (C5.out _ hV).mono ?_
  rintro e w9 ⟨tb, too2, tc2, rfl, hT, hT1, hT2, hb⟩
  clear c0 c1 c2 c3 c4 c5 c6 c7 c8 az ae0 ae1 ae2 bz be0 be1 be2
  have HGa := hid (HGa.out.below hb)
  have HXa := hid (HXa.out.below hb)
  have HGb := hid (HGb.out.below hb)
  have HXb := hid (HXb.out.below hb)
  have HS := hid (HS.out.below hb)
  have hV := bnext hV hb
  have hL := bnext hL hb
  have CE9 := hid (CE8.out.below hb z8)
  have hB9 : Below w.heap.size w w9 := bnext hB8 hb
  have z9 : w.heap.size + 3 ≤ w9.heap.size := Nat.le_trans z8 hb.size
  clear hb hB8 z8 CE8
  obtain ⟨c0, c1, c2, c3, c4, c5, c6, c7, c8⟩ := CE9.out
  obtain ⟨az, ae0, ae1, ae2⟩ := HGa.out
  obtain ⟨bz, be0, be1, be2⟩ := HGb.out
  have hl5 := pic_len G5.out
  simp only at hl5
  have HTX := hid (pixs_in hT (by omega))
  have HTP := hid (hT)
  clear hT
  go_upto_region 21 with fail
  obtain ⟨W', hW'⟩ : ∃ W', W' = w9.alloc (.cells #[.int .i64 (pw), .int .i64 (ph), .slice (some ⟨tb, too2, none⟩) (l5.length) (tc2)] 26) := ⟨_, rfl⟩
  rw [← hW']
  have hb : Below w9.heap.size w9 W' := by rw [hW']; exact (Below.refl _ _).alloc (Nat.le_refl _) _
  have hF : PicAt w9.heap.size (pw) (ph) (some ⟨tb, too2, none⟩) (l5.length) (tc2) W' := by rw [hW']; exact PicAt.new _ _ _ _ _ _ _
  clear hW'
  obtain ⟨w10, rfl⟩ : ∃ w : World, w = W' := ⟨_, rfl⟩
  clear c0 c1 c2 c3 c4 c5 c6 c7 c8 az ae0 ae1 ae2 bz be0 be1 be2
  have HGa := hid (HGa.out.below hb)
  have HXa := hid (HXa.out.below hb)
  have HGb := hid (HGb.out.below hb)
  have HXb := hid (HXb.out.below hb)
  have HS := hid (HS.out.below hb)
  have HTX := hid (HTX.out.below hb)
  have HTP := hid (HTP.out.below hb)
  have hV := bnext hV hb
  have hL := bnext hL hb
  have CE10 := hid (CE9.out.below hb z9)
  have hB10 : Below w.heap.size w w10 := bnext hB9 hb
  have z10 : w.heap.size + 3 ≤ w10.heap.size := Nat.le_trans z9 hb.size
  clear hb hB9 z9 CE9
  obtain ⟨c0, c1, c2, c3, c4, c5, c6, c7, c8⟩ := CE10.out
  obtain ⟨az, ae0, ae1, ae2⟩ := HGa.out
  obtain ⟨bz, be0, be1, be2⟩ := HGb.out
  obtain ⟨gt, hg⟩ : ∃ g, g = w9.heap.size := ⟨_, rfl⟩
  rw [← hg] at hF ⊢
  clear hg
  have Hgt := hid (hF)
  obtain ⟨tz, t0, t1, t2⟩ := Hgt.out
  clear hF
  have hpp := H_p.out.below hB10
  have hlq := pic_len fq.out
  simp only at hlq
  have hqn := H_q.out.1
  obtain ⟨qb, qo, rfl, -, -⟩ := H_q.out.open_ (by omega)
  have hqq := H_q.out.below hB10
  have HPX := hid (pixs_in hpp (by have := HPN.out; omega))
  have HQX := hid (pixs_in hqq (by omega))
  have HQN := hid hqn
  clear hpp hqq hqn
  obtain ⟨PW, PH, eW, eH, p1, p2, -, hlen⟩ := fine_nat fp.out
  simp only at eW eH hlen
  have bW : pw ≤ 8 := fp.out.2.1
  have bH : ph ≤ 8 := fp.out.2.2.2.1
  have qW1 : 1 ≤ qw := fq.out.1
  have qW2 : qw ≤ 8 := fq.out.2.1
  have qH1 : 1 ≤ qh := fq.out.2.2.1
  have qH2 : qh ≤ 8 := fq.out.2.2.2.1
  have EW := hid eW
  have EH := hid eH
  have Hlen := hid hlen
  have hw0 : 0 ≤ pw := by omega
  have hh0 : 0 ≤ ph := by omega
  have HG := hid (fun j i (W H : Nat) hW hH hj hi => put_get? (p := ⟨pw, ph, pl⟩) (q := ⟨qw, qh, ql⟩) (x := x) (y := y) (W := W) (H := H) fp.out hW hH (j := j) (i := i) hj hi)
  simp only [HE5.out] at HG
  clear eW eH hlen
  go_wp2_with fail
  clear c0 c1 c2 c3 c4 c5 c6 c7 c8 az ae0 ae1 ae2 bz be0 be1 be2 tz t0 t1 t2
  go_loopw [24] (fun yv wr => ∃ v : Nat, yv = .int .i64 v ∧ (v : Int) ≤ ph ∧ Below w10.heap.size w10 wr) (fun yv _ => (ph - intOf yv).toNat)
  case atStart => exact ⟨0, rfl, hh0, Below.refl _ _⟩
  case round =>
  obtain ⟨v, rfl, hvl, hbel⟩ := hrel
  obtain ⟨c0, c1, c2, c3, c4, c5, c6, c7, c8⟩ := CE10.out
  obtain ⟨az, ae0, ae1, ae2⟩ := HGa.out
  obtain ⟨bz, be0, be1, be2⟩ := HGb.out
  obtain ⟨tz, t0, t1, t2⟩ := Hgt.out
  have hb := hbel
  have hM := hbel
  clear hbel
  obtain ⟨w11, rfl⟩ : ∃ wo : World, wo = wr := ⟨_, rfl⟩
  clear c0 c1 c2 c3 c4 c5 c6 c7 c8 az ae0 ae1 ae2 bz be0 be1 be2 tz t0 t1 t2
  have HGa := hid (HGa.out.below hb)
  have HXa := hid (HXa.out.below hb)
  have HGb := hid (HGb.out.below hb)
  have HXb := hid (HXb.out.below hb)
  have HS := hid (HS.out.below hb)
  have HTX := hid (HTX.out.below hb)
  have HTP := hid (HTP.out.below hb)
  have Hgt := hid (Hgt.out.below hb)
  have HPX := hid (HPX.out.below hb)
  have HQX := hid (HQX.out.below hb)
  have hV := bnext hV hb
  have CE11 := hid (CE10.out.below hb z10)
  have hB11 : Below w.heap.size w w11 := bnext hB10 hb
  have z11 : w.heap.size + 3 ≤ w11.heap.size := Nat.le_trans z10 hb.size
  clear hb hB10 z10 CE10
  obtain ⟨c0, c1, c2, c3, c4, c5, c6, c7, c8⟩ := CE11.out
  obtain ⟨az, ae0, ae1, ae2⟩ := HGa.out
  obtain ⟨bz, be0, be1, be2⟩ := HGb.out
  obtain ⟨tz, t0, t1, t2⟩ := Hgt.out
  by_cases hv : (v : Int) < ph
  case neg =>
   as_aux_lemma =>
    have KS := hid (fun W (h : Below w11.heap.size w11 W) => (show W.cell? ⟨ga, 0, none⟩ = some (.int .i64 pw) ∧ W.cell? ⟨ga, 1, none⟩ = some (.int .i64 ph) ∧ W.cell? ⟨ga, 2, none⟩ = some (.slice (some ⟨ba, oa, none⟩) l2.length ka) ∧ W.cell? ⟨gb, 0, none⟩ = some (.int .i64 pw) ∧ W.cell? ⟨gb, 1, none⟩ = some (.int .i64 ph) ∧ W.cell? ⟨gb, 2, none⟩ = some (.slice (some ⟨bb, ob, none⟩) l2.length kb) ∧ W.cell? ⟨gs, 0, none⟩ = some (.int .i64 pw) ∧ W.cell? ⟨gs, 1, none⟩ = some (.int .i64 ph) ∧ W.cell? ⟨gs, 2, none⟩ = some (.slice (some ⟨b0, o0, none⟩) pl.length k0) ∧ W.cell? ⟨gt, 0, none⟩ = some (.int .i64 pw) ∧ W.cell? ⟨gt, 1, none⟩ = some (.int .i64 ph) ∧ W.cell? ⟨gt, 2, none⟩ = some (.slice (some ⟨tb, too2, none⟩) l5.length tc2) ∧ W.cell? ⟨w.heap.size, 0, none⟩ = some (.int .i64 pw) ∧ W.cell? ⟨w.heap.size, 1, none⟩ = some (.int .i64 ph) ∧ W.cell? ⟨w.heap.size, 2, none⟩ = some (.slice (some ⟨pb, po, none⟩) pn pc) ∧ W.cell? ⟨w.heap.size + 1, 0, none⟩ = some (.int .i64 qw) ∧ W.cell? ⟨w.heap.size + 1, 1, none⟩ = some (.int .i64 qh) ∧ W.cell? ⟨w.heap.size + 1, 2, none⟩ = some (.slice (some ⟨qb, qo, none⟩) qn qc) from ⟨(HGa.out.below h).2.1, (HGa.out.below h).2.2.1, (HGa.out.below h).2.2.2, (HGb.out.below h).2.1, (HGb.out.below h).2.2.1, (HGb.out.below h).2.2.2, (HS.out.1.below h).2.1, (HS.out.1.below h).2.2.1, (HS.out.1.below h).2.2.2, (Hgt.out.below h).2.1, (Hgt.out.below h).2.2.1, (Hgt.out.below h).2.2.2, (CE11.out.below h z11).1, (CE11.out.below h z11).2.1, (CE11.out.below h z11).2.2.1, (CE11.out.below h z11).2.2.2.1, (CE11.out.below h z11).2.2.2.2.1, (CE11.out.below h z11).2.2.2.2.2.1⟩))
    have C7 := hid (fun W (h : Below w11.heap.size w11 W) => same_selfN pw ph l2 (some ⟨ba, oa, none⟩) (some ⟨bb, ob, none⟩) l2.length l2.length ka kb W (HXa.out.below h) (HXb.out.below h) (by have := pic_len G2.out; simp only at this; omega))
    have C8 := hid (fun W (h : Below w11.heap.size w11 W) => same_selfN pw ph pl (some ⟨b0, o0, none⟩) (some ⟨pb, po, none⟩) pl.length pn k0 pc W (HS.out.2.2.1.below h) (H_p.out.below (bnext hB11 h)) (by omega))
    have C9 := hid (fun W (h : Below w11.heap.size w11 W) => C6.out W (some ⟨tb, too2, none⟩) tc2 (bnext hV h) (HTP.out.below h))
    have C10 := hid (fun W A c (h : Below w11.heap.size w11 W) (hl : Pixs W A l5.length l5) => same_selfN pw ph l5 A (some ⟨tb, too2, none⟩) l5.length l5.length c tc2 W hl (HTP.out.below h) (by omega))
    have HBR := hid hB11
    go_wp2_with fail
    have HBW := Below.refl w11.heap.size w11
    clear hB11 c0 c1 c2 c3 c4 c5 c6 c7 c8 az ae0 ae1 ae2 bz be0 be1 be2 tz t0 t1 t2
    go_region_held3 (fun W => W.cell? ⟨ga, 0, none⟩ = some (.int .i64 pw) ∧ W.cell? ⟨ga, 1, none⟩ = some (.int .i64 ph) ∧ W.cell? ⟨ga, 2, none⟩ = some (.slice (some ⟨ba, oa, none⟩) l2.length ka) ∧ W.cell? ⟨gb, 0, none⟩ = some (.int .i64 pw) ∧ W.cell? ⟨gb, 1, none⟩ = some (.int .i64 ph) ∧ W.cell? ⟨gb, 2, none⟩ = some (.slice (some ⟨bb, ob, none⟩) l2.length kb) ∧ W.cell? ⟨gs, 0, none⟩ = some (.int .i64 pw) ∧ W.cell? ⟨gs, 1, none⟩ = some (.int .i64 ph) ∧ W.cell? ⟨gs, 2, none⟩ = some (.slice (some ⟨b0, o0, none⟩) pl.length k0) ∧ W.cell? ⟨gt, 0, none⟩ = some (.int .i64 pw) ∧ W.cell? ⟨gt, 1, none⟩ = some (.int .i64 ph) ∧ W.cell? ⟨gt, 2, none⟩ = some (.slice (some ⟨tb, too2, none⟩) l5.length tc2) ∧ W.cell? ⟨w.heap.size, 0, none⟩ = some (.int .i64 pw) ∧ W.cell? ⟨w.heap.size, 1, none⟩ = some (.int .i64 ph) ∧ W.cell? ⟨w.heap.size, 2, none⟩ = some (.slice (some ⟨pb, po, none⟩) pn pc) ∧ W.cell? ⟨w.heap.size + 1, 0, none⟩ = some (.int .i64 qw) ∧ W.cell? ⟨w.heap.size + 1, 1, none⟩ = some (.int .i64 qh) ∧ W.cell? ⟨w.heap.size + 1, 2, none⟩ = some (.slice (some ⟨qb, qo, none⟩) qn qc)) (first | exact KS.out _ HBW | exact KS.out _ (by have hB := HBW; (repeat (first | with_reducible exact hB | with_reducible refine Below.alloc ?_ (by have := hB.size; simp; try omega) _ | with_reducible refine Below.setCell ?_ (by have := hB.size; simp; try omega) _ | with_reducible refine below_drewN ?_ _ | with_reducible refine Below.drew ?_))) | go_keep)
      (first
        | (go_at_call 21; (with_reducible refine (C9.out _ (by have hB := HBW; (repeat (first | with_reducible exact hB | with_reducible refine Below.alloc ?_ (by have := hB.size; simp; try omega) _ | with_reducible refine Below.setCell ?_ (by have := hB.size; simp; try omega) _ | with_reducible refine below_drewN ?_ _ | with_reducible refine Below.drew ?_)))).mono ?_); rintro e w' ⟨b2, o2, k2, rfl, hp2, hn2, hm2, hbw⟩; have HBW : Below w11.heap.size w11 w' := bnext (by have hB := HBW; (repeat (first | with_reducible exact hB | with_reducible refine Below.alloc ?_ (by have := hB.size; simp; try omega) _ | with_reducible refine Below.setCell ?_ (by have := hB.size; simp; try omega) _ | with_reducible refine below_drewN ?_ _ | with_reducible refine Below.drew ?_))) hbw)
        | (go_at_call 16; (first | (with_reducible refine (C7.out _ (by have hB := HBW; (repeat (first | with_reducible exact hB | with_reducible refine Below.alloc ?_ (by have := hB.size; simp; try omega) _ | with_reducible refine Below.setCell ?_ (by have := hB.size; simp; try omega) _ | with_reducible refine below_drewN ?_ _ | with_reducible refine Below.drew ?_)))).mono ?_) | (with_reducible refine (C8.out _ (by have hB := HBW; (repeat (first | with_reducible exact hB | with_reducible refine Below.alloc ?_ (by have := hB.size; simp; try omega) _ | with_reducible refine Below.setCell ?_ (by have := hB.size; simp; try omega) _ | with_reducible refine below_drewN ?_ _ | with_reducible refine Below.drew ?_)))).mono ?_) | (with_reducible refine (C10.out _ _ _ (by have hB := HBW; (repeat (first | with_reducible exact hB | with_reducible refine Below.alloc ?_ (by have := hB.size; simp; try omega) _ | with_reducible refine Below.setCell ?_ (by have := hB.size; simp; try omega) _ | with_reducible refine below_drewN ?_ _ | with_reducible refine Below.drew ?_))) hp2).mono ?_)); rintro e w' ⟨rfl, hbw⟩; have HBW : Below w11.heap.size w11 w' := bnext (by have hB := HBW; (repeat (first | with_reducible exact hB | with_reducible refine Below.alloc ?_ (by have := hB.size; simp; try omega) _ | with_reducible refine Below.setCell ?_ (by have := hB.size; simp; try omega) _ | with_reducible refine below_drewN ?_ _ | with_reducible refine Below.drew ?_))) hbw))
    all_goals (go_wp2_with fail)
    all_goals go_ret
    all_goals exact ⟨rfl, bnext HBR.out HBW⟩
  go_wp2_with fail
  clear c0 c1 c2 c3 c4 c5 c6 c7 c8 az ae0 ae1 ae2 bz be0 be1 be2 tz t0 t1 t2
  go_loopw [25] (fun xv wr => ∃ u : Nat, xv = .int .i64 u ∧ (u : Int) ≤ pw ∧ Below w11.heap.size w11 wr) (fun xv _ => (pw - intOf xv).toNat)
  case atStart => exact ⟨0, rfl, hw0, Below.refl _ _⟩
  case round =>
  obtain ⟨u, rfl, hul, hbel⟩ := hrel
  obtain ⟨c0, c1, c2, c3, c4, c5, c6, c7, c8⟩ := CE11.out
  obtain ⟨az, ae0, ae1, ae2⟩ := HGa.out
  obtain ⟨bz, be0, be1, be2⟩ := HGb.out
  obtain ⟨tz, t0, t1, t2⟩ := Hgt.out
  have hb := hbel
  have hN := hbel
  clear hbel
  obtain ⟨w12, rfl⟩ : ∃ wo : World, wo = wr := ⟨_, rfl⟩
  clear c0 c1 c2 c3 c4 c5 c6 c7 c8 az ae0 ae1 ae2 bz be0 be1 be2 tz t0 t1 t2
  have HGa := hid (HGa.out.below hb)
  have HXa := hid (HXa.out.below hb)
  have HGb := hid (HGb.out.below hb)
  have HXb := hid (HXb.out.below hb)
  have HS := hid (HS.out.below hb)
  have HTX := hid (HTX.out.below hb)
  have HTP := hid (HTP.out.below hb)
  have Hgt := hid (Hgt.out.below hb)
  have HPX := hid (HPX.out.below hb)
  have HQX := hid (HQX.out.below hb)
  have hV := bnext hV hb
  have hM := bnext hM hb
  have CE12 := hid (CE11.out.below hb z11)
  have hB12 : Below w.heap.size w w12 := bnext hB11 hb
  have z12 : w.heap.size + 3 ≤ w12.heap.size := Nat.le_trans z11 hb.size
  clear hb hB11 z11 CE11
  obtain ⟨c0, c1, c2, c3, c4, c5, c6, c7, c8⟩ := CE12.out
  obtain ⟨az, ae0, ae1, ae2⟩ := HGa.out
  obtain ⟨bz, be0, be1, be2⟩ := HGb.out
  obtain ⟨tz, t0, t1, t2⟩ := Hgt.out
  by_cases hu : (u : Int) < pw
  case neg =>
    go_wp2_with fail
    go_roundw
    case rel => exact ⟨v + 1, by go_num, by omega, hM⟩
    case measure => simp [intOf]; omega
  have hvH : v < PH := by have := EH.out; omega
  have huW : u < PW := by have := EW.out; omega
  obtain ⟨k1, k2, hget⟩ := HG.out v u PW PH EW.out EH.out hvH huW
  try simp only at k1 k2 hget
  have hJP : (v : Int) * pw = ((v * PW : Nat) : Int) := by rw [EW.out]; simp
  have hKn : v * PW + u < 64 := by have := HPN.out; omega
  obtain ⟨JP, hJ⟩ : ∃ JP, v * PW = JP := ⟨_, rfl⟩
  simp only [hJ] at hJP k1 k2 hget hKn
  have Hget := hid hget
  have w1 : IntKind.i64.wrap ((v : Int) * pw) = (JP : Int) := by rw [hJP]; exact IntWalk.i64_in _ (by omega)
  clear hget hJP hJ
  obtain ⟨KK, hKK⟩ : ∃ KK, JP + u = KK := ⟨_, rfl⟩
  have w2 : IntKind.i64.wrap ((JP : Int) + (u : Int)) = (KK : Int) := by rw [show (JP : Int) + (u : Int) = (KK : Int) by omega]; exact IntWalk.i64_in _ (by omega)
  simp only [hKK] at k1 k2 Hget
  have x1 : (0 : Int) ≤ (KK : Int) := by omega
  have x2 : (KK : Int) < (pn : Int) := by have := HPN.out; omega
  have x3 : (KK : Int) < (l5.length : Int) := by omega
  clear hKK hKn
  have HREC := hid (fun W => has_any ⟨x, y, qw, qh⟩ (u : Int) (v : Int) (by simp only; omega) (by simp only; omega) (by simp only; omega) (by simp only; omega) W)
  have HSRC := hid (fun h => src_get (q := ⟨qw, qh, ql⟩) (x := x) (y := y) (j := v) (i := u) fq.out h)
  unfold onB at Hget HSRC
  generalize hasB ⟨x, y, qw, qh⟩ (u : Int) (v : Int) = onp at *
  go_wp2_with fail
  refine (HREC.out _).mono ?_
  rintro e w13 ⟨rfl, hb⟩
  clear c0 c1 c2 c3 c4 c5 c6 c7 c8 az ae0 ae1 ae2 bz be0 be1 be2 tz t0 t1 t2
  have HGa := hid (HGa.out.below hb)
  have HXa := hid (HXa.out.below hb)
  have HGb := hid (HGb.out.below hb)
  have HXb := hid (HXb.out.below hb)
  have HS := hid (HS.out.below hb)
  have HTX := hid (HTX.out.below hb)
  have HTP := hid (HTP.out.below hb)
  have Hgt := hid (Hgt.out.below hb)
  have HPX := hid (HPX.out.below hb)
  have HQX := hid (HQX.out.below hb)
  have hV := bnext hV hb
  have hM := bnext hM hb
  have hN := bnext hN hb
  have CE13 := hid (CE12.out.below hb z12)
  have hB13 : Below w.heap.size w w13 := bnext hB12 hb
  have z13 : w.heap.size + 3 ≤ w13.heap.size := Nat.le_trans z12 hb.size
  clear hb hB12 z12 CE12
  obtain ⟨c0, c1, c2, c3, c4, c5, c6, c7, c8⟩ := CE13.out
  obtain ⟨az, ae0, ae1, ae2⟩ := HGa.out
  obtain ⟨bz, be0, be1, be2⟩ := HGb.out
  obtain ⟨tz, t0, t1, t2⟩ := Hgt.out
  cases onp
  case false =>
   as_aux_lemma =>
    have hpb0 := Hget.out
    rw [getD_at k1, getD_at k2] at hpb0
    simp only [Bool.false_eq_true, if_false] at hpb0
    obtain ⟨a, ha⟩ : ∃ a, pl[KK] = a := ⟨_, rfl⟩
    obtain ⟨av, aa⟩ := a
    rw [ha] at hpb0
    obtain ⟨y0, y1⟩ := HPX.out.2 KK k2
    rw [ha] at y0 y1
    obtain ⟨b0, b1⟩ := HTX.out.2 KK k1
    rw [hpb0] at b0 b1
    have HA := hid ha
    clear ha hpb0
    have hneq := neq_px_same (av, aa)
    simp only at hneq y0 y1 b0 b1
    go_wp2_with fail
    go_quiet (fail)
    go_wp2_with fail
    go_roundw
    case rel => exact ⟨u + 1, by go_num, by omega, below_drewN hN _⟩
    case measure => simp [intOf]; omega
  case true =>
   as_aux_lemma =>
    have hpb0 := Hget.out
    rw [getD_at k1, getD_at k2] at hpb0
    simp only [if_true] at hpb0
    obtain ⟨SS, hS0, eS, eSrc⟩ := HSRC.out rfl
    try simp only at hS0 eS eSrc
    rw [eSrc] at hpb0
    obtain ⟨a, ha⟩ : ∃ a, ql[SS] = a := ⟨_, rfl⟩
    obtain ⟨sv, sa⟩ := a
    rw [ha] at hpb0
    obtain ⟨y0, y1⟩ := HQX.out.2 SS hS0
    rw [ha] at y0 y1
    obtain ⟨b0, b1⟩ := HTX.out.2 KK k1
    rw [hpb0] at b0 b1
    obtain ⟨M1, hM1⟩ : ∃ M1 : Int, (v : Int) - y = M1 := ⟨_, rfl⟩
    obtain ⟨M2, hM2⟩ : ∃ M2 : Int, M1 * qw = M2 := ⟨_, rfl⟩
    obtain ⟨mb1, mb2⟩ := mul_bdA M1 qw (by omega) (by omega) qW1 qW2
    rw [hM1, hM2] at eS
    rw [hM2] at mb1 mb2
    have w3 : IntKind.i64.wrap ((v : Int) - y) = M1 := by rw [hM1]; exact IntWalk.i64_in _ (by omega)
    have w4 : IntKind.i64.wrap (M1 * qw) = M2 := by rw [hM2]; exact IntWalk.i64_in _ (by omega)
    have w5 : IntKind.i64.wrap (M2 + (u : Int)) = M2 + (u : Int) := IntWalk.i64_in _ (by omega)
    have w6 : IntKind.i64.wrap (M2 + (u : Int) - x) = (SS : Int) := by rw [eS]; exact IntWalk.i64_in _ (by omega)
    have x4 : (0 : Int) ≤ (SS : Int) := by omega
    have x5 : (SS : Int) < (qn : Int) := by have := HQN.out; omega
    have HA := hid ha
    clear hM1 hM2 eS mb1 mb2 ha hpb0 eSrc
    have hneq := neq_px_same (sv, sa)
    simp only at hneq y0 y1 b0 b1
    go_wp2_with fail
    go_quiet (fail)
    go_wp2_with fail
    go_roundw
    case rel => exact ⟨u + 1, by go_num, by omega, below_drewN hN _⟩
    case measure => simp [intOf]; omega
theorem topAdd_row (w : World) (p : FAt FPic) (hp : PicOk w p) (q : FAt FPic) (hq : PicOk w q) (r : FAt FPic) (hr : PicOk w r) (x : Int) (_hx : (Lit.int .i64 x).wf = true) (y : Int) (_hy : (Lit.int .i64 y).wf = true) (i : Int) (_hi : (Lit.int .i64 i).wf = true) (j : Int) (_hj : (Lit.int .i64 j).wf = true) :
    Calls Try.prog 4 #[.agg #[.int .i64 p.x.w, .int .i64 p.x.h, .slice p.A p.n p.c], .agg #[.int .i64 q.x.w, .int .i64 q.x.h, .slice q.A q.n q.c], .agg #[.int .i64 r.x.w, .int .i64 r.x.h, .slice r.A r.n r.c], .int .i64 x, .int .i64 y, .int .i64 i, .int .i64 j] w (Ret (.bool true) w) :=
  topAdd_walk p.x.w p.x.h p.x.p p.A p.n p.c q.x.w q.x.h q.x.p q.A q.n q.c r.x.w r.x.h r.x.p r.A r.n r.c x y i j w hp.1 hq.1 hr.1 
end Fb
