/- Words for memory of this seat's proofs: what a slice reads as, said of cells; what a call leaves. Conditions: none; plain lemmas. -/
import Derived.WalkKit
import Derived.WalkSpells
import Derived.WalkLawsBesides
import Derived.Lib.QuietBelow
namespace Fb
open Go Go.RowKit

/-- The call returns v, and what was there before is as it was. -/
def Ret (v : Value) (w : World) (e : Ending) (w' : World) : Prop := e = .returned v ∧ Below w.heap.size w w'

theorem hid {p : Prop} (h : p) : Hid p := h
theorem ret_bool {a b : Bool} (h : a = b) : Ending.returned (.bool a) = .returned (.bool b) := by rw [h]
theorem ret_int {k : IntKind} {a b : Int} (h : a = b) : Ending.returned (.int k a) = .returned (.int k b) := by rw [h]
theorem ret_str {a b : ByteArray} (h : a = b) : Ending.returned (.string a) = .returned (.string b) := by rw [h]

/-- one call behind another -/
theorem bnext {w w1 w2 : World} (h : Below w.heap.size w w1) (h2 : Below w1.heap.size w1 w2) : Below w.heap.size w w2 := h.trans (h2.mono h.size)

/-- all old cells and marks read as before -/
theorem bcell {W w1 : World} {B : Nat} (hb : Below B W w1) : (∀ b o, b < B → w1.cell? ⟨b, o, none⟩ = W.cell? ⟨b, o, none⟩) ∧ (∀ b o, b < B → w1.frozen? ⟨b, o, none⟩ = W.frozen? ⟨b, o, none⟩) :=
  ⟨fun b o h => hb.cell (p := ⟨b, o, none⟩) h, fun b o h => hb.frozen (p := ⟨b, o, none⟩) h⟩

/-- A slice (its address A, n elements of size cells each) reads as the cells cs. -/
def Row (w : World) (A : Option Addr) (n size : Nat) (cs : List Value) : Prop :=
  cs.length = n * size ∧ (0 < n → ∃ b off, A = some ⟨b, off, none⟩ ∧ b < w.heap.size ∧ ∀ j u, cs[j]? = some u → w.cell? ⟨b, off + j, none⟩ = some u)

theorem Row.none_ (w : World) (A : Option Addr) (size : Nat) : Row w A 0 size [] := ⟨by simp, fun h => absurd h (by omega)⟩

/-- Whatever keeps all the old blocks keeps what a slice reads as. -/
theorem Row.keep {w w' : World} {A : Option Addr} {n size : Nat} {cs : List Value} (h : Row w A n size cs) (hk : ∀ p : Addr, p.block < w.heap.size → w'.cell? p = w.cell? p) (hs : w.heap.size ≤ w'.heap.size) : Row w' A n size cs :=
  ⟨h.1, fun hn => by
    obtain ⟨b, off, e, hb, hc⟩ := h.2 hn
    exact ⟨b, off, e, by omega, fun j u hu => (hk _ hb).trans (hc j u hu)⟩⟩
theorem Row.below {w w' : World} {A : Option Addr} {n size : Nat} {cs : List Value} (h : Row w A n size cs) (hb : Below w.heap.size w w') : Row w' A n size cs :=
  h.keep (fun _ hp => hb.cell hp) hb.size
theorem Row.alloc {w : World} {A : Option Addr} {n size : Nat} {cs : List Value} (h : Row w A n size cs) (o : Go.Obj) : Row (w.alloc o) A n size cs := h.below ((Below.refl _ _).alloc (Nat.le_refl _) o)
theorem Row.drew {w : World} {A : Option Addr} {n size : Nat} {cs : List Value} (h : Row w A n size cs) : Row w.drew A n size cs := h
/-- A row other than the one that was written. -/
theorem Row.grown {w w' : World} {A : Option Addr} {n size : Nat} {cs : List Value} {row : Option Nat} (h : Row w A n size cs) (hg : w.grownBy w' row) (hne : 0 < n → ∀ a, A = some a → row ≠ some a.block) : Row w' A n size cs :=
  ⟨h.1, fun hn => by
    obtain ⟨b, off, rfl, hb, hc⟩ := h.2 hn
    refine ⟨b, off, rfl, Nat.lt_of_lt_of_le hb hg.size, fun j u hu => ?_⟩
    rw [World.cell?_of_block (w := w) (w' := w') (hg.block b hb (fun e => hne hn _ rfl e.symm))]
    exact hc j u hu⟩
/-- What is owned reads. -/
theorem Row.of_own {w : World} {base e size n c : Nat} {A : Option Addr} {xs : List Value} (h : w.ownsRow base e size (.slice A n c) n xs) : Row w A n size xs := by
  refine ⟨h.1, fun hn => ?_⟩
  rcases h.2 with ⟨hv, h0⟩ | ⟨g, cap, cur, hv, hg, hh, hnc, hcm, hcs, ht⟩
  · omega
  · simp only [Value.slice.injEq] at hv
    obtain ⟨rfl, _, rfl⟩ := hv
    refine ⟨g, 0, rfl, (Array.getElem?_eq_some_iff.1 hh).1, fun j u hu => ?_⟩
    have := h.cells (g := g) rfl j u hu
    by_cases hj : j = 0
    · subst hj; simpa [Addr.add] using this
    · simpa [Addr.add, hj] using this
/-- The value of a row that is owned is a slice. -/
theorem own_slice {w : World} {base e size n : Nat} {v : Value} {xs : List Value} (h : w.ownsRow base e size v n xs) : ∃ A c, v = .slice A n c ∧ (∀ a, A = some a → base ≤ a.block ∧ a.block < w.heap.size ∧ a.off = 0 ∧ a.spot = none) ∧ n ≤ c ∧ c ≤ maxLen := by
  rcases h.2 with ⟨rfl, rfl⟩ | ⟨g, cap, cur, rfl, hg, hh, hnc, hcm, hcs, ht⟩
  · exact ⟨none, 0, rfl, fun a h => by simp at h, Nat.le_refl _, by simp [maxLen]⟩
  · exact ⟨_, cap, rfl, fun a h => by injection h with h; subst h; exact ⟨hg, (Array.getElem?_eq_some_iff.1 hh).1, rfl, rfl⟩, hnc, hcm⟩

/-! ## bytes and strings -/
def byteCells (L : List UInt8) : List Value := L.map fun u => .int .u8 (u.toNat : Int)
def strOf (L : List UInt8) : ByteArray := ⟨L.toArray⟩
theorem foldl_push (L : List UInt8) : ∀ (s : ByteArray), (L.map fun u : UInt8 => (u.toNat : Int)).foldl (fun r n => r.push (UInt8.ofNat n.toNat)) s = ⟨s.data ++ L.toArray⟩ := by
  induction L with
  | nil => intro s; simp
  | cons a L ih =>
    intro s
    simp only [List.map_cons, List.foldl_cons, ih]
    congr 1
    simp [ByteArray.push]
theorem run_string_row {P : Program} {w : World} {src dst e : TypeId} {A : Option Addr} {n c : Nat} {L : List UInt8} (h : Row w A n 1 (byteCells L))
    (hs : P.underlying src = some (.slice e)) (he : P.underlying e = some (.int .u8)) (hd : P.underlying dst = some .string) :
    (convert src dst (.slice A n c)).run P w = .ok (.string (strOf L)) w := by
  rw [run_convert_bytes_string w src dst e A n c hs he hd]
  have hl : L.length = n := by have := h.1; simpa [byteCells] using this
  cases A with
  | none =>
    have h0 : n = 0 := by
      rcases Nat.eq_zero_or_pos n with h0 | h0
      · exact h0
      · obtain ⟨_, _, e, _⟩ := h.2 h0; cases e
    subst h0
    have : L = [] := List.eq_nil_of_length_eq_zero hl
    subst this
    simp [Conv.bytesToString, strOf]; rfl
  | some a =>
    have hc : ∀ j v, (byteCells L)[j]? = some v → w.cell? (a.add j) = some v := by
      intro j v hv
      have hj : j < L.length := by
        have := (List.getElem?_eq_some_iff.1 hv).1
        simpa [byteCells] using this
      obtain ⟨b, off, e, _, hc⟩ := h.2 (by omega)
      simp only [Option.some.injEq] at e
      subst e
      have := hc j v hv
      by_cases hj0 : j = 0
      · subst hj0; simpa [Addr.add] using this
      · simpa [Addr.add, hj0] using this
    have := run_loadCells_list (P := P) (w := w) a (byteCells L) hc
    rw [show (byteCells L).length = n by simp [byteCells, hl]] at this
    have e : byteCells L = (L.map fun u : UInt8 => (u.toNat : Int)).map (Value.int .u8) := by simp [byteCells]
    rw [e] at this
    rw [run_bytesToString w a n c _ this, foldl_push]
    simp [strOf]
theorem byteCells_append (a b : List UInt8) : byteCells (a ++ b) = byteCells a ++ byteCells b := by simp [byteCells]
theorem byteCells_len (a : List UInt8) : (byteCells a).length = a.length := by simp [byteCells]

/-! ## data -/
abbrev Px := Int × Int
structure FPic where
  w : Int
  h : Int
  p : List Px
structure FRect where
  x : Int
  y : Int
  w : Int
  h : Int
structure FObj where
  id : Int
  x : Int
  y : Int
  pic : FPic
  clip : FRect
  shown : Bool
structure FFrame where
  pic : FPic
  delay : Int
structure FOp where
  kind : Int
  id : Int
  a : Int
  b : Int
  c : Int
  d : Int
  pic : FPic
/-- Something with a picture, and where its pixels lie. -/
structure FAt (α : Type) where
  x : α
  A : Option Addr
  n : Nat
  c : Nat

def pxCells (l : List Px) : List Value := l.flatMap fun p => [.int .i64 p.1, .int .i64 p.2]
/-- The slice (A, n) reads as the pixels l. -/
def Pixs (w : World) (A : Option Addr) (n : Nat) (l : List Px) : Prop := l.length = n ∧ Row w A n 2 (pxCells l)

def frCells (r : FAt FFrame) : List Value := [.int .i64 r.x.pic.w, .int .i64 r.x.pic.h, .slice r.A r.n r.c, .int .i64 r.x.delay]
def obCells (r : FAt FObj) : List Value := [.int .i64 r.x.id, .int .i64 r.x.x, .int .i64 r.x.y, .int .i64 r.x.pic.w, .int .i64 r.x.pic.h, .slice r.A r.n r.c, .int .i64 r.x.clip.x, .int .i64 r.x.clip.y, .int .i64 r.x.clip.w, .int .i64 r.x.clip.h, .bool r.x.shown]
def opCells (r : FAt FOp) : List Value := [.int .i64 r.x.kind, .int .i64 r.x.id, .int .i64 r.x.a, .int .i64 r.x.b, .int .i64 r.x.c, .int .i64 r.x.d, .int .i64 r.x.pic.w, .int .i64 r.x.pic.h, .slice r.A r.n r.c]

def Frames (w : World) (A : Option Addr) (n : Nat) (rs : List (FAt FFrame)) : Prop := rs.length = n ∧ Row w A n 4 (rs.flatMap frCells) ∧ ∀ r ∈ rs, Pixs w r.A r.n r.x.pic.p
def Objs (w : World) (A : Option Addr) (n : Nat) (rs : List (FAt FObj)) : Prop := rs.length = n ∧ Row w A n 11 (rs.flatMap obCells) ∧ ∀ r ∈ rs, Pixs w r.A r.n r.x.pic.p
def Ops (w : World) (A : Option Addr) (n : Nat) (rs : List (FAt FOp)) : Prop := rs.length = n ∧ Row w A n 9 (rs.flatMap opCells) ∧ ∀ r ∈ rs, Pixs w r.A r.n r.x.pic.p

/-- In a list of cells that go size by size: cell j of element k. -/
theorem flat_at {α : Type} {enc : α → List Value} {size : Nat} (hs : ∀ a, (enc a).length = size) : ∀ (l : List α) (k j : Nat) (a : α), l[k]? = some a → j < size → (l.flatMap enc)[k * size + j]? = (enc a)[j]?
  | [], k, j, a, h, hj => by simp at h
  | b :: l, 0, j, a, h, hj => by
    simp only [List.getElem?_cons_zero, Option.some.injEq] at h
    subst h
    simp only [List.flatMap_cons, Nat.zero_mul, Nat.zero_add]
    rw [List.getElem?_append_left (by rw [hs]; exact hj)]
  | b :: l, k + 1, j, a, h, hj => by
    simp only [List.getElem?_cons_succ] at h
    simp only [List.flatMap_cons]
    rw [List.getElem?_append_right (by rw [hs, Nat.add_mul]; omega), hs, ← flat_at hs l k j a h hj]
    congr 1
    rw [Nat.add_mul]
    omega
theorem flat_len {α : Type} {enc : α → List Value} {size : Nat} (hs : ∀ a, (enc a).length = size) : ∀ (l : List α), (l.flatMap enc).length = l.length * size
  | [] => by simp
  | b :: l => by simp only [List.flatMap_cons, List.length_append, hs, flat_len hs l, List.length_cons, Nat.add_mul]; omega

/-- The cells of the pixels behind an address. -/
def PixAt (w : World) (b off : Nat) (l : List Px) : Prop := ∀ k (h : k < l.length), w.cell? ⟨b, off + k * 2, none⟩ = some (.int .i64 l[k].1) ∧ w.cell? ⟨b, off + k * 2 + 1, none⟩ = some (.int .i64 l[k].2)
theorem Pixs.open_ {w : World} {A : Option Addr} {n : Nat} {l : List Px} (h : Pixs w A n l) (hn : 0 < n) : ∃ b off, A = some ⟨b, off, none⟩ ∧ b < w.heap.size ∧ PixAt w b off l := by
  obtain ⟨b, off, e, hb, hc⟩ := h.2.2 hn
  refine ⟨b, off, e, hb, fun k hk => ?_⟩
  have e0 : l[k]? = some l[k] := List.getElem?_eq_getElem hk
  have f := fun j hj => flat_at (enc := fun p : Px => [.int .i64 p.1, .int .i64 p.2]) (size := 2) (fun _ => rfl) l k j _ e0 hj
  exact ⟨by have := hc (k * 2 + 0) _ (f 0 (by omega)); simpa using this, by have := hc (k * 2 + 1) _ (f 1 (by omega)); simpa [Nat.add_assoc] using this⟩
theorem Pixs.below {w w' : World} {A : Option Addr} {n : Nat} {l : List Px} (h : Pixs w A n l) (hb : Below w.heap.size w w') : Pixs w' A n l := ⟨h.1, h.2.below hb⟩
theorem PixAt.below {w w' : World} {B b off : Nat} {l : List Px} (h : PixAt w b off l) (hb : Below B w w') (hB : b < B) : PixAt w' b off l :=
  fun k hk => ⟨(hb.cell hB).trans (h k hk).1, (hb.cell hB).trans (h k hk).2⟩

def FrAt (w : World) (b off : Nat) (rs : List (FAt FFrame)) : Prop := ∀ k (h : k < rs.length), w.cell? ⟨b, off + k * 4, none⟩ = some (.int .i64 rs[k].x.pic.w) ∧ w.cell? ⟨b, off + k * 4 + 1, none⟩ = some (.int .i64 rs[k].x.pic.h) ∧
  w.cell? ⟨b, off + k * 4 + 2, none⟩ = some (.slice rs[k].A rs[k].n rs[k].c) ∧ w.cell? ⟨b, off + k * 4 + 3, none⟩ = some (.int .i64 rs[k].x.delay)
theorem Frames.open_ {w : World} {A : Option Addr} {n : Nat} {rs : List (FAt FFrame)} (h : Frames w A n rs) (hn : 0 < n) : ∃ b off, A = some ⟨b, off, none⟩ ∧ b < w.heap.size ∧ FrAt w b off rs := by
  obtain ⟨b, off, e, hb, hc⟩ := h.2.1.2 hn
  refine ⟨b, off, e, hb, fun k hk => ?_⟩
  have e0 : rs[k]? = some rs[k] := List.getElem?_eq_getElem hk
  have f := fun j hj => flat_at (enc := frCells) (size := 4) (fun _ => rfl) rs k j _ e0 hj
  exact ⟨by have := hc (k * 4 + 0) _ (f 0 (by omega)); simpa using this, by have := hc (k * 4 + 1) _ (f 1 (by omega)); simpa [Nat.add_assoc] using this,
    by have := hc (k * 4 + 2) _ (f 2 (by omega)); simpa [Nat.add_assoc] using this, by have := hc (k * 4 + 3) _ (f 3 (by omega)); simpa [Nat.add_assoc] using this⟩

/-! ## boxes of rects; a region that draws and calls -/
theorem Ret.regrown {P : Program} {f : FuncId} {args : Array Value} {w : World} {d : Nat} {os : Array Go.Obj} {v : Value}
    (h : Calls P f args (Sort.grow (redrawn w d) os) (Ret v (Sort.grow (redrawn w d) os))) : Calls P f args (Sort.grow (redrawn w d) os) fun e w'' => e = .returned v ∧ ∃ p : Regrown, w'' = Sort.grow (redrawn w p.d) p.os :=
  Calls.regrown_of h
/-- Block g holds the rect r. -/
def RectAt (w : World) (g : Nat) (r : FRect) : Prop := g < w.heap.size ∧ w.cell? ⟨g, 0, none⟩ = some (.int .i64 r.x) ∧ w.cell? ⟨g, 1, none⟩ = some (.int .i64 r.y) ∧ w.cell? ⟨g, 2, none⟩ = some (.int .i64 r.w) ∧ w.cell? ⟨g, 3, none⟩ = some (.int .i64 r.h)
theorem RectAt.below {w w' : World} {g : Nat} {r : FRect} (h : RectAt w g r) (hb : Below w.heap.size w w') : RectAt w' g r :=
  ⟨Nat.lt_of_lt_of_le h.1 hb.size, (hb.cell h.1).trans h.2.1, (hb.cell h.1).trans h.2.2.1, (hb.cell h.1).trans h.2.2.2.1, (hb.cell h.1).trans h.2.2.2.2⟩
theorem RectAt.all {w : World} {g : Nat} {r : FRect} (h : RectAt w g r) (d : Nat) (os : Array Go.Obj) : (Sort.grow (redrawn w d) os).cell? ⟨g, 0, none⟩ = some (.int .i64 r.x) ∧ (Sort.grow (redrawn w d) os).cell? ⟨g, 1, none⟩ = some (.int .i64 r.y) ∧
    (Sort.grow (redrawn w d) os).cell? ⟨g, 2, none⟩ = some (.int .i64 r.w) ∧ (Sort.grow (redrawn w d) os).cell? ⟨g, 3, none⟩ = some (.int .i64 r.h) := (h.below (below_regrown w d os)).2
theorem RectAt.new (w : World) (r : FRect) (t : TypeId) : RectAt (w.alloc (.cells #[.int .i64 r.x, .int .i64 r.y, .int .i64 r.w, .int .i64 r.h] t)) w.heap.size r := ⟨by simp, by simp, by simp, by simp, by simp⟩
theorem RectAt.alloc {w : World} {g : Nat} {r : FRect} (h : RectAt w g r) (o : Go.Obj) : RectAt (w.alloc o) g r := h.below ((Below.refl _ _).alloc (Nat.le_refl _) o)

end Fb
