/- Arguments opened: what a struct or a slice that came in reads as. No conditions. Arguments opened: slices of structs, pictures, frames, objects, ops: what they read as. No conditions. -/
import Derived.Test.YtgkemeclpidmcaaPlainA
import Derived.ProofKit
import Derived.OpenShut
import Derived.Lib.SmallJoins
import Derived.Deep.Slices
import Derived.Deep.Fields
import Derived.ChangeSame
namespace Fb
open Go Go.Proofs Go.RowKit Go.ChangeShapes Go.WideShapes Go.Joins
def Wf (n : Int) : Prop := (Lit.int .i64 n).wf = true
section
variable {H : Type} {enc : TypeId × Value → H} {W : World} {base : Nat} {spare : Nat → Bool} {held : Bool} {v : Value} {d : DataW H} {p : List MemPlace} {b0 : Nat}
theorem cells_rect : Try.prog.cellsOf 87 = 4 := by kernel_rfl
theorem cells_px : Try.prog.cellsOf 42 = 2 := by kernel_rfl
theorem one_int {n : Nat} {v : Value} {y : DataW H × List MemPlace} (h : DataW.trod enc Try.prog W base spare held n 3 [v] = some y) : ∃ a : Int, v = .int .i64 a ∧ Wf a := by
  obtain ⟨a, e0, -, wa⟩ := DataW.trod_int Try.underlying3 h
  simp at e0
  exact ⟨a, e0, wa⟩
set_option maxRecDepth 100000 in
theorem open_rect (hv : Value.okWide Try.prog W .any b0 87 v) (h : DataW.Trod enc Try.prog W base spare held 87 v d p) :
    ∃ r : FRect, v = .agg #[.int .i64 r.x, .int .i64 r.y, .int .i64 r.w, .int .i64 r.h] ∧ Wf r.x ∧ Wf r.y ∧ Wf r.w ∧ Wf r.h := by
  obtain ⟨v0, v1, v2, v3, y0, y1, y2, y3, n, rfl, -, -, h0, h1, h2, h3⟩ := open_agg4 Try.underlying87 (by kernel_rfl) cells_rect hv h
  obtain ⟨a0, rfl, w0⟩ := one_int h0
  obtain ⟨a1, rfl, w1⟩ := one_int h1
  obtain ⟨a2, rfl, w2⟩ := one_int h2
  obtain ⟨a3, rfl, w3⟩ := one_int h3
  exact ⟨⟨a0, a1, a2, a3⟩, rfl, w0, w1, w2, w3⟩
set_option maxRecDepth 100000 in
theorem open_px (hv : Value.okWide Try.prog W .any b0 42 v) (h : DataW.Trod enc Try.prog W base spare held 42 v d p) :
    ∃ r : Px, v = .agg #[.int .i64 r.1, .int .i64 r.2] ∧ Wf r.1 ∧ Wf r.2 := by
  obtain ⟨v0, v1, y0, y1, n, rfl, -, -, h0, h1⟩ := open_agg2 Try.underlying42 (by kernel_rfl) cells_px hv h
  obtain ⟨a0, rfl, w0⟩ := one_int h0
  obtain ⟨a1, rfl, w1⟩ := one_int h1
  exact ⟨(a0, a1), rfl, w0, w1⟩
end
end Fb
namespace Fb
open Go Go.Proofs Go.RowKit Go.ChangeShapes Go.WideShapes Go.Joins Go.Deep
set_option maxRecDepth 100000
section
variable {H : Type} {enc : TypeId × Value → H} {W : World} {base : Nat} {spare : Nat → Bool} {held : Bool} {v : Value} {d : DataW H} {p : List MemPlace} {b0 : Nat}
theorem add_none (b off j : Nat) : (⟨b, off, none⟩ : Addr).add j = ⟨b, off + j, none⟩ := by
  unfold Addr.add
  by_cases h : j = 0
  · subst h; simp
  · rw [if_neg h]
/-- a slice whose elements read as 'cel a' -/
theorem row_of_trod {P : Program} {t e : TypeId} {fuel size : Nat} {cs : List Value} {x : DataW H × List MemPlace} (ht : P.underlying t = some (.slice e)) (hC : P.cellsOf e = size) (hs : 0 < size)
    (h : DataW.trod enc P W base spare held fuel t cs = some x) {α : Type} (cel : α → List Value) (hcel : ∀ a, (cel a).length = size) (Q : α → Prop)
    (hel : ∀ n cs' x', DataW.trod enc P W base spare held n e cs' = some x' → ∃ a, cs' = cel a ∧ Q a) :
    ∃ (A : Option Addr) (n c : Nat) (l : List α), cs = [.slice A n c] ∧ n ≤ c ∧ c ≤ maxLen ∧ l.length = n ∧ Row W A n size (l.flatMap cel) ∧ ∀ a ∈ l, Q a := by
  rcases open_slice ht h with ⟨h0, -⟩ | ⟨a, len, cap, m, n, D, Pl, rfl, hb, hl, hm, hmm, -, hx⟩
  · exact ⟨none, 0, 0, [], h0, Nat.le_refl _, by simp [maxLen], rfl, by simpa using Row.none_ W none size, fun a ha => by simp at ha⟩
  · rw [hC] at hx
    have hlm : len ≤ m := by rw [hmm]; split <;> omega
    have each : ∀ i, i < len → ∃ y : α, W.cells? base (a.add (i * size)) size = some (cel y) ∧ Q y := fun i hi => by
      obtain ⟨cs', h1, h2⟩ := hx i (by omega)
      obtain ⟨y, rfl, hq⟩ := hel _ _ _ h2
      exact ⟨y, h1, hq⟩
    by_cases h0 : len = 0
    · subst h0
      exact ⟨some a, 0, cap, [], rfl, hl, hm, rfl, by simpa using Row.none_ W (some a) size, fun a ha => by simp at ha⟩
    · obtain ⟨y0, _, _⟩ := each 0 (by omega)
      haveI : Inhabited α := ⟨y0⟩
      obtain ⟨f, hf⟩ := choose_lt each
      have hsp : a.spot = none := by
        have h1 := (World.cells?_some (hf 0 (by omega)).1).2.2 0 hs
        rw [List.getElem?_eq_getElem (by rw [hcel]; exact hs)] at h1
        have := World.cell?_spot h1
        rw [show (a.add (0 * size)).add 0 = a by simp [Addr.add]] at this
        exact this
      obtain ⟨b, off, sp⟩ := a
      simp only at hsp
      subst hsp
      have hlt : b < W.heap.size := by
        have h1 := (World.cells?_some (hf 0 (by omega)).1).2.2 0 hs
        rw [List.getElem?_eq_getElem (by rw [hcel]; exact hs)] at h1
        rw [add_none, add_none] at h1
        exact World.block_lt_of_cell? W _ h1
      refine ⟨some ⟨b, off, none⟩, len, cap, (List.range len).map f, rfl, hl, hm, by simp, ⟨by rw [flat_len hcel]; simp, fun _ => ⟨b, off, rfl, hlt, fun j u hu => ?_⟩⟩, fun y hy => ?_⟩
      · have hj : j < len * size := by
          have := (List.getElem?_eq_some_iff.1 hu).1
          rw [flat_len hcel] at this
          simpa using this
        have hk : j / size < len := Nat.div_lt_of_lt_mul (by rw [Nat.mul_comm]; exact hj)
        have hr : j % size < size := Nat.mod_lt _ hs
        have hj2 : j = j / size * size + j % size := by rw [Nat.mul_comm]; exact (Nat.div_add_mod j size).symm
        have hfl := flat_at hcel ((List.range len).map f) (j / size) (j % size) (f (j / size)) (by rw [List.getElem?_map, List.getElem?_range hk]; rfl) hr
        rw [← hj2, hu] at hfl
        have h1 := (World.cells?_some (hf (j / size) hk).1).2.2 (j % size) hr
        rw [add_none, add_none, ← hfl] at h1
        rw [hj2, ← Nat.add_assoc]
        exact h1
      · obtain ⟨i, hi, rfl⟩ := List.mem_map.1 hy
        exact (hf i (List.mem_range.1 hi)).2
theorem cells_int : Try.prog.cellsOf 3 = 1 := by kernel_rfl
theorem cells_bool : Try.prog.cellsOf 4 = 1 := by kernel_rfl
theorem cells_pixs : Try.prog.cellsOf 47 = 1 := by kernel_rfl
theorem cells_pic : Try.prog.cellsOf 49 = 3 := by kernel_rfl
theorem cells_frame : Try.prog.cellsOf 60 = 4 := by kernel_rfl
theorem cells_obj : Try.prog.cellsOf 89 = 11 := by kernel_rfl
theorem cells_op : Try.prog.cellsOf 51 = 9 := by kernel_rfl
theorem int_of {n : Nat} {v : Value} {y : Option (DataW H × List MemPlace)} {z : DataW H × List MemPlace} (h : DataW.trod enc Try.prog W base spare held n 3 [v] = y) (hy : y = some z) : ∃ a : Int, v = .int .i64 a ∧ Wf a := one_int (h.trans hy)
theorem some_of {α : Type} {l : List α} {k i : Nat} (h : l.length = k) (hi : i < k) : ∃ z, l[i]? = some z := ⟨l[i], List.getElem?_eq_getElem (by omega)⟩
theorem trod_px {n : Nat} {cs : List Value} {x : DataW H × List MemPlace} (h : DataW.trod enc Try.prog W base spare held n 42 cs = some x) : ∃ r : Px, cs = [.int .i64 r.1, .int .i64 r.2] ∧ Wf r.1 ∧ Wf r.2 := by
  obtain ⟨xs, m, _, hx, hl, hlen, hf⟩ := DataW.trod_struct Try.underlying42 h
  rw [cells_px] at hl
  match cs, hl with
  | [c0, c1], _ =>
    have h0 := hf 0 _ rfl
    have h1 := hf 1 _ rfl
    simp [cells_int] at h0 h1 hlen
    obtain ⟨z0, e0⟩ := some_of hlen (i := 0) (by decide)
    obtain ⟨z1, e1⟩ := some_of hlen (i := 1) (by decide)
    obtain ⟨a0, rfl, w0⟩ := int_of h0 (by simpa using e0)
    obtain ⟨a1, rfl, w1⟩ := int_of h1 (by simpa using e1)
    exact ⟨(a0, a1), rfl, w0, w1⟩
/-- a slice of pixels -/
theorem trod_pixs {n : Nat} {cs : List Value} {x : DataW H × List MemPlace} (h : DataW.trod enc Try.prog W base spare held n 47 cs = some x) :
    ∃ (A : Option Addr) (n c : Nat) (l : List Px), cs = [.slice A n c] ∧ n ≤ c ∧ c ≤ maxLen ∧ Pixs W A n l ∧ ∀ r ∈ l, Wf r.1 ∧ Wf r.2 := by
  obtain ⟨A, n, c, l, h1, h2, h3, h4, h5, h6⟩ := row_of_trod Try.underlying47 cells_px (by decide) h (fun p : Px => [.int .i64 p.1, .int .i64 p.2]) (fun _ => rfl) (fun r => Wf r.1 ∧ Wf r.2) (fun n cs' x' h => trod_px h)
  exact ⟨A, n, c, l, h1, h2, h3, ⟨h4, h5⟩, h6⟩
/-- a picture's three cells -/
def picCells (r : FAt FPic) : List Value := [.int .i64 r.x.w, .int .i64 r.x.h, .slice r.A r.n r.c]
def PicOk (W : World) (r : FAt FPic) : Prop := Pixs W r.A r.n r.x.p ∧ Wf r.x.w ∧ Wf r.x.h ∧ (∀ q ∈ r.x.p, Wf q.1 ∧ Wf q.2) ∧ r.n ≤ r.c ∧ r.c ≤ maxLen
theorem trod_pic {n : Nat} {cs : List Value} {x : DataW H × List MemPlace} (h : DataW.trod enc Try.prog W base spare held n 49 cs = some x) : ∃ r : FAt FPic, cs = picCells r ∧ PicOk W r := by
  obtain ⟨xs, m, _, hx, hl, hlen, hf⟩ := DataW.trod_struct Try.underlying49 h
  rw [cells_pic] at hl
  match cs, hl with
  | [c0, c1, c2], _ =>
    have h0 := hf 0 _ rfl
    have h1 := hf 1 _ rfl
    have h2 := hf 2 _ rfl
    simp [cells_int, cells_pixs] at h0 h1 h2 hlen
    obtain ⟨z0, e0⟩ := some_of hlen (i := 0) (by decide)
    obtain ⟨z1, e1⟩ := some_of hlen (i := 1) (by decide)
    obtain ⟨z2, e2⟩ := some_of hlen (i := 2) (by decide)
    obtain ⟨a0, rfl, w0⟩ := int_of h0 (by simpa using e0)
    obtain ⟨a1, rfl, w1⟩ := int_of h1 (by simpa using e1)
    obtain ⟨A, k, c, l, hc, q1, q2, q3, q4⟩ := trod_pixs (h2.trans (by simpa using e2))
    simp at hc
    subst hc
    exact ⟨⟨⟨a0, a1, l⟩, A, k, c⟩, rfl, q3, w0, w1, q4, q1, q2⟩
theorem array_list {α : Type} {a : Array α} {l : List α} (h : a.toList = l) : a = l.toArray := by rw [← h]
/-- an argument that is a picture -/
theorem open_pic (hv : Value.okWide Try.prog W .any b0 49 v) (h : DataW.Trod enc Try.prog W base spare held 49 v d p) :
    ∃ r : FAt FPic, v = .agg #[.int .i64 r.x.w, .int .i64 r.x.h, .slice r.A r.n r.c] ∧ PicOk W r := by
  obtain ⟨cs, rfl, hsz⟩ := okWide_struct Try.underlying49 hv
  obtain ⟨fuel, hf⟩ := h
  obtain ⟨r, e, hr⟩ := trod_pic hf
  exact ⟨r, congrArg Value.agg (array_list e), hr⟩
theorem open_pixs (hv : Value.okWide Try.prog W .any b0 47 v) (h : DataW.Trod enc Try.prog W base spare held 47 v d p) :
    ∃ r : FAt (List Px), v = .slice r.A r.n r.c ∧ Pixs W r.A r.n r.x ∧ r.n ≤ r.c ∧ r.c ≤ maxLen ∧ ∀ q ∈ r.x, Wf q.1 ∧ Wf q.2 := by
  obtain ⟨a, len, cap, rfl⟩ := okWide_slice Try.underlying47 hv
  obtain ⟨fuel, hf⟩ := h
  obtain ⟨A, k, c, l, hc, q1, q2, q3, q4⟩ := trod_pixs hf
  simp [Value.cells] at hc
  obtain ⟨rfl, rfl, rfl⟩ := hc
  exact ⟨⟨l, _, _, _⟩, rfl, q3, q1, q2, q4⟩
theorem trod_rect {n : Nat} {cs : List Value} {x : DataW H × List MemPlace} (h : DataW.trod enc Try.prog W base spare held n 87 cs = some x) : ∃ r : FRect, cs = [.int .i64 r.x, .int .i64 r.y, .int .i64 r.w, .int .i64 r.h] ∧ Wf r.x ∧ Wf r.y ∧ Wf r.w ∧ Wf r.h := by
  obtain ⟨xs, m, _, hx, hl, hlen, hf⟩ := DataW.trod_struct Try.underlying87 h
  rw [cells_rect] at hl
  match cs, hl with
  | [c0, c1, c2, c3], _ =>
    have h0 := hf 0 _ rfl
    have h1 := hf 1 _ rfl
    have h2 := hf 2 _ rfl
    have h3 := hf 3 _ rfl
    simp [cells_int] at h0 h1 h2 h3 hlen
    obtain ⟨z0, e0⟩ := some_of hlen (i := 0) (by decide)
    obtain ⟨z1, e1⟩ := some_of hlen (i := 1) (by decide)
    obtain ⟨z2, e2⟩ := some_of hlen (i := 2) (by decide)
    obtain ⟨z3, e3⟩ := some_of hlen (i := 3) (by decide)
    obtain ⟨a0, rfl, w0⟩ := int_of h0 (by simpa using e0)
    obtain ⟨a1, rfl, w1⟩ := int_of h1 (by simpa using e1)
    obtain ⟨a2, rfl, w2⟩ := int_of h2 (by simpa using e2)
    obtain ⟨a3, rfl, w3⟩ := int_of h3 (by simpa using e3)
    exact ⟨⟨a0, a1, a2, a3⟩, rfl, w0, w1, w2, w3⟩
def FrOk (W : World) (r : FAt FFrame) : Prop := Pixs W r.A r.n r.x.pic.p ∧ Wf r.x.pic.w ∧ Wf r.x.pic.h ∧ (∀ q ∈ r.x.pic.p, Wf q.1 ∧ Wf q.2) ∧ r.n ≤ r.c ∧ r.c ≤ maxLen ∧ Wf r.x.delay
theorem trod_frame {n : Nat} {cs : List Value} {x : DataW H × List MemPlace} (h : DataW.trod enc Try.prog W base spare held n 60 cs = some x) : ∃ r : FAt FFrame, cs = frCells r ∧ FrOk W r := by
  obtain ⟨xs, m, _, hx, hl, hlen, hf⟩ := DataW.trod_struct Try.underlying60 h
  rw [cells_frame] at hl
  match cs, hl with
  | [c0, c1, c2, c3], _ =>
    have h0 := hf 0 _ rfl
    have h1 := hf 1 _ rfl
    simp [cells_int, cells_pic] at h0 h1 hlen
    obtain ⟨z0, e0⟩ := some_of hlen (i := 0) (by decide)
    obtain ⟨z1, e1⟩ := some_of hlen (i := 1) (by decide)
    obtain ⟨r, e, q1, q2, q3, q4, q5, q6⟩ := trod_pic (h0.trans (by simpa using e0))
    obtain ⟨a1, rfl, w1⟩ := int_of h1 (by simpa using e1)
    simp [picCells] at e
    obtain ⟨rfl, rfl, rfl⟩ := e
    exact ⟨⟨⟨r.x, a1⟩, r.A, r.n, r.c⟩, rfl, q1, q2, q3, q4, q5, q6, w1⟩
theorem open_frames (hv : Value.okWide Try.prog W .any b0 25 v) (h : DataW.Trod enc Try.prog W base spare held 25 v d p) :
    ∃ r : FAt (List (FAt FFrame)), v = .slice r.A r.n r.c ∧ Frames W r.A r.n r.x ∧ r.n ≤ r.c ∧ r.c ≤ maxLen ∧ ∀ q ∈ r.x, FrOk W q := by
  obtain ⟨a, len, cap, rfl⟩ := okWide_slice Try.underlying25 hv
  obtain ⟨fuel, hf⟩ := h
  obtain ⟨A, n, c, l, hc, h2, h3, h4, h5, h6⟩ := row_of_trod Try.underlying25 cells_frame (by decide) hf frCells (fun _ => rfl) (FrOk W) (fun n cs' x' h => trod_frame h)
  simp [Value.cells] at hc
  obtain ⟨rfl, rfl, rfl⟩ := hc
  exact ⟨⟨l, _, _, _⟩, rfl, ⟨h4, h5, fun r hr => (h6 r hr).1⟩, h2, h3, h6⟩
def ObOk (W : World) (r : FAt FObj) : Prop := Pixs W r.A r.n r.x.pic.p ∧ Wf r.x.pic.w ∧ Wf r.x.pic.h ∧ (∀ q ∈ r.x.pic.p, Wf q.1 ∧ Wf q.2) ∧ r.n ≤ r.c ∧ r.c ≤ maxLen ∧ Wf r.x.id ∧ Wf r.x.x ∧ Wf r.x.y ∧ Wf r.x.clip.x ∧ Wf r.x.clip.y ∧ Wf r.x.clip.w ∧ Wf r.x.clip.h
theorem trod_obj {n : Nat} {cs : List Value} {x : DataW H × List MemPlace} (h : DataW.trod enc Try.prog W base spare held n 89 cs = some x) : ∃ r : FAt FObj, cs = obCells r ∧ ObOk W r := by
  obtain ⟨xs, m, _, hx, hl, hlen, hf⟩ := DataW.trod_struct Try.underlying89 h
  rw [cells_obj] at hl
  match cs, hl with
  | [c0, c1, c2, c3, c4, c5, c6, c7, c8, c9, c10], _ =>
    have h0 := hf 0 _ rfl
    have h1 := hf 1 _ rfl
    have h2 := hf 2 _ rfl
    have h3 := hf 3 _ rfl
    have h4 := hf 4 _ rfl
    have h5 := hf 5 _ rfl
    simp [cells_int, cells_pic, cells_rect, cells_bool] at h0 h1 h2 h3 h4 h5 hlen
    obtain ⟨z0, e0⟩ := some_of hlen (i := 0) (by decide)
    obtain ⟨z1, e1⟩ := some_of hlen (i := 1) (by decide)
    obtain ⟨z2, e2⟩ := some_of hlen (i := 2) (by decide)
    obtain ⟨z3, e3⟩ := some_of hlen (i := 3) (by decide)
    obtain ⟨z4, e4⟩ := some_of hlen (i := 4) (by decide)
    obtain ⟨z5, e5⟩ := some_of hlen (i := 5) (by decide)
    obtain ⟨a0, rfl, w0⟩ := int_of h0 (by simpa using e0)
    obtain ⟨a1, rfl, w1⟩ := int_of h1 (by simpa using e1)
    obtain ⟨a2, rfl, w2⟩ := int_of h2 (by simpa using e2)
    obtain ⟨r, e, q1, q2, q3, q4, q5, q6⟩ := trod_pic (h3.trans (by simpa using e3))
    obtain ⟨k, e', k1, k2, k3, k4⟩ := trod_rect (h4.trans (by simpa using e4))
    obtain ⟨bb, eb, -⟩ := DataW.trod_bool Try.underlying4 (h5.trans (by simpa using e5))
    simp [picCells] at e
    simp at e' eb
    obtain ⟨rfl, rfl, rfl⟩ := e
    obtain ⟨rfl, rfl, rfl, rfl⟩ := e'
    subst eb
    exact ⟨⟨⟨a0, a1, a2, r.x, k, bb⟩, r.A, r.n, r.c⟩, rfl, q1, q2, q3, q4, q5, q6, w0, w1, w2, k1, k2, k3, k4⟩
theorem open_obj (hv : Value.okWide Try.prog W .any b0 89 v) (h : DataW.Trod enc Try.prog W base spare held 89 v d p) :
    ∃ r : FAt FObj, v = .agg #[.int .i64 r.x.id, .int .i64 r.x.x, .int .i64 r.x.y, .int .i64 r.x.pic.w, .int .i64 r.x.pic.h, .slice r.A r.n r.c, .int .i64 r.x.clip.x, .int .i64 r.x.clip.y, .int .i64 r.x.clip.w, .int .i64 r.x.clip.h, .bool r.x.shown] ∧ ObOk W r := by
  obtain ⟨cs, rfl, hsz⟩ := okWide_struct Try.underlying89 hv
  obtain ⟨fuel, hf⟩ := h
  obtain ⟨r, e, hr⟩ := trod_obj hf
  exact ⟨r, congrArg Value.agg (array_list e), hr⟩
theorem open_objs (hv : Value.okWide Try.prog W .any b0 40 v) (h : DataW.Trod enc Try.prog W base spare held 40 v d p) :
    ∃ r : FAt (List (FAt FObj)), v = .slice r.A r.n r.c ∧ Objs W r.A r.n r.x ∧ r.n ≤ r.c ∧ r.c ≤ maxLen ∧ ∀ q ∈ r.x, ObOk W q := by
  obtain ⟨a, len, cap, rfl⟩ := okWide_slice Try.underlying40 hv
  obtain ⟨fuel, hf⟩ := h
  obtain ⟨A, n, c, l, hc, h2, h3, h4, h5, h6⟩ := row_of_trod Try.underlying40 cells_obj (by decide) hf obCells (fun _ => rfl) (ObOk W) (fun n cs' x' h => trod_obj h)
  simp [Value.cells] at hc
  obtain ⟨rfl, rfl, rfl⟩ := hc
  exact ⟨⟨l, _, _, _⟩, rfl, ⟨h4, h5, fun r hr => (h6 r hr).1⟩, h2, h3, h6⟩
def OpOk (W : World) (r : FAt FOp) : Prop := Pixs W r.A r.n r.x.pic.p ∧ Wf r.x.pic.w ∧ Wf r.x.pic.h ∧ (∀ q ∈ r.x.pic.p, Wf q.1 ∧ Wf q.2) ∧ r.n ≤ r.c ∧ r.c ≤ maxLen ∧ Wf r.x.kind ∧ Wf r.x.id ∧ Wf r.x.a ∧ Wf r.x.b ∧ Wf r.x.c ∧ Wf r.x.d
theorem trod_op {n : Nat} {cs : List Value} {x : DataW H × List MemPlace} (h : DataW.trod enc Try.prog W base spare held n 51 cs = some x) : ∃ r : FAt FOp, cs = opCells r ∧ OpOk W r := by
  obtain ⟨xs, m, _, hx, hl, hlen, hf⟩ := DataW.trod_struct Try.underlying51 h
  rw [cells_op] at hl
  match cs, hl with
  | [c0, c1, c2, c3, c4, c5, c6, c7, c8], _ =>
    have h0 := hf 0 _ rfl
    have h1 := hf 1 _ rfl
    have h2 := hf 2 _ rfl
    have h3 := hf 3 _ rfl
    have h4 := hf 4 _ rfl
    have h5 := hf 5 _ rfl
    have h6 := hf 6 _ rfl
    simp [cells_int, cells_pic] at h0 h1 h2 h3 h4 h5 h6 hlen
    obtain ⟨z0, e0⟩ := some_of hlen (i := 0) (by decide)
    obtain ⟨z1, e1⟩ := some_of hlen (i := 1) (by decide)
    obtain ⟨z2, e2⟩ := some_of hlen (i := 2) (by decide)
    obtain ⟨z3, e3⟩ := some_of hlen (i := 3) (by decide)
    obtain ⟨z4, e4⟩ := some_of hlen (i := 4) (by decide)
    obtain ⟨z5, e5⟩ := some_of hlen (i := 5) (by decide)
    obtain ⟨z6, e6⟩ := some_of hlen (i := 6) (by decide)
    obtain ⟨a0, rfl, w0⟩ := int_of h0 (by simpa using e0)
    obtain ⟨a1, rfl, w1⟩ := int_of h1 (by simpa using e1)
    obtain ⟨a2, rfl, w2⟩ := int_of h2 (by simpa using e2)
    obtain ⟨a3, rfl, w3⟩ := int_of h3 (by simpa using e3)
    obtain ⟨a4, rfl, w4⟩ := int_of h4 (by simpa using e4)
    obtain ⟨a5, rfl, w5⟩ := int_of h5 (by simpa using e5)
    obtain ⟨r, e, q1, q2, q3, q4, q5, q6⟩ := trod_pic (h6.trans (by simpa using e6))
    simp [picCells] at e
    obtain ⟨rfl, rfl, rfl⟩ := e
    exact ⟨⟨⟨a0, a1, a2, a3, a4, a5, r.x⟩, r.A, r.n, r.c⟩, rfl, q1, q2, q3, q4, q5, q6, w0, w1, w2, w3, w4, w5⟩
theorem open_op (hv : Value.okWide Try.prog W .any b0 51 v) (h : DataW.Trod enc Try.prog W base spare held 51 v d p) :
    ∃ r : FAt FOp, v = .agg #[.int .i64 r.x.kind, .int .i64 r.x.id, .int .i64 r.x.a, .int .i64 r.x.b, .int .i64 r.x.c, .int .i64 r.x.d, .int .i64 r.x.pic.w, .int .i64 r.x.pic.h, .slice r.A r.n r.c] ∧ OpOk W r := by
  obtain ⟨cs, rfl, hsz⟩ := okWide_struct Try.underlying51 hv
  obtain ⟨fuel, hf⟩ := h
  obtain ⟨r, e, hr⟩ := trod_op hf
  exact ⟨r, congrArg Value.agg (array_list e), hr⟩
theorem open_ops (hv : Value.okWide Try.prog W .any b0 22 v) (h : DataW.Trod enc Try.prog W base spare held 22 v d p) :
    ∃ r : FAt (List (FAt FOp)), v = .slice r.A r.n r.c ∧ Ops W r.A r.n r.x ∧ r.n ≤ r.c ∧ r.c ≤ maxLen ∧ ∀ q ∈ r.x, OpOk W q := by
  obtain ⟨a, len, cap, rfl⟩ := okWide_slice Try.underlying22 hv
  obtain ⟨fuel, hf⟩ := h
  obtain ⟨A, n, c, l, hc, h2, h3, h4, h5, h6⟩ := row_of_trod Try.underlying22 cells_op (by decide) hf opCells (fun _ => rfl) (OpOk W) (fun n cs' x' h => trod_op h)
  simp [Value.cells] at hc
  obtain ⟨rfl, rfl, rfl⟩ := hc
  exact ⟨⟨l, _, _, _⟩, rfl, ⟨h4, h5, fun r hr => (h6 r hr).1⟩, h2, h3, h6⟩
/-- a slice of texts -/
def Strs (w : World) (A : Option Addr) (n : Nat) (l : List ByteArray) : Prop := l.length = n ∧ Row w A n 1 (l.map Value.string)
theorem cells_string : Try.prog.cellsOf 9 = 1 := by kernel_rfl
end
end Fb
