/- Words for memory of this seat's proofs: what a slice reads as, said of cells; what a call leaves. Conditions: none; plain lemmas. This seat's numbers: errors of package api as values; the byte type's row. Rows that the call owns: kept by what keeps all old blocks; their last element's cells; new cells. No conditions. What a box of the call's own holds: a picture, a pixel, an object. Conditions: none; plain lemmas. A region that draws its order, of reads and of calls that only make memory, and then of one last operation that waits for all of them: the text's order serves for every order. Conditions: no guards; edges point back; the last operation waits for each. A region that draws its order, of reads and of calls that only make memory, of ONE allocation, and of one last store: the text's order serves for every order. Conditions: no guards; edges point back; only the store reads the new address. Plain laws of rects. No conditions. Plain laws of one pixel before another. Conditions: shades and covers from 0 to 255. Pictures laid, added and put, in plain Lean: a list of pixels row by row, of which some are changed. Conditions: those of each lemma. '==' and '!=' of pixels and rects. No conditions. A box that holds an op, and what its cells hold. Conditions: those of each lemma. flickerbooklaw.same: an error against a number. Conditions: the error's number is small. A slice that the call owns, whose elements are slices of other blocks: what these read as stays so while it grows, and while a strings.Builder is written. No conditions. flickerbooklaw.LightPicture returns what it says. Conditions: none. -/
import Derived.WalkKit
import Derived.WalkSpells
import Derived.WalkLawsBesides
import Derived.Lib.QuietBelow
import Derived.Test.YtgkemeclpidmcaaProg
import Derived.Deep.QuietTactic
import Derived.BigQuiet
import Derived.Deep.CutBlock
import Derived.Deep.DeepCutAuto
import Derived.Laws.OwnMore
import Derived.Deep.AppendLies
import Derived.Laws.StructEq
import Derived.Lib.Builder
import Derived.Lib.OthersKept
namespace Fb
open Go Go.RowKit

/-- The call returns v, and what was there before is as it was. -/
def Ret (v : Value) (w : World) (e : Ending) (w' : World) : Prop := e = .returned v ∧ Below w.heap.size w w'

theorem hid {p : Prop} (h : p) : Hid p := h
theorem ret_bool {a b : Bool} (h : a = b) : Ending.returned (.bool a) = .returned (.bool b) := by rw [h]
theorem ret_int {k : IntKind} {a b : Int} (h : a = b) : Ending.returned (.int k a) = .returned (.int k b) := by rw [h]
theorem ret_str {a b : ByteArray} (h : a = b) : Ending.returned (.string a) = .returned (.string b) := by rw [h]

/-- one call behind another -/
theorem bnext {w w1 w2 : World} (h : Below w.heap.size w w1) (h2 : Below w1.heap.size w1 w2) : Below w.heap.size w w2 := h.trans (h2.mono h.size)

/-- all old cells and marks read as before -/
theorem bcell {W w1 : World} {B : Nat} (hb : Below B W w1) : (∀ b o, b < B → w1.cell? ⟨b, o, none⟩ = W.cell? ⟨b, o, none⟩) ∧ (∀ b o, b < B → w1.frozen? ⟨b, o, none⟩ = W.frozen? ⟨b, o, none⟩) :=
  ⟨fun b o h => hb.cell (p := ⟨b, o, none⟩) h, fun b o h => hb.frozen (p := ⟨b, o, none⟩) h⟩

/-- A slice (its address A, n elements of size cells each) reads as the cells cs. -/
def Row (w : World) (A : Option Addr) (n size : Nat) (cs : List Value) : Prop :=
  cs.length = n * size ∧ (0 < n → ∃ b off, A = some ⟨b, off, none⟩ ∧ b < w.heap.size ∧ ∀ j u, cs[j]? = some u → w.cell? ⟨b, off + j, none⟩ = some u)

theorem Row.none_ (w : World) (A : Option Addr) (size : Nat) : Row w A 0 size [] := ⟨by simp, fun h => absurd h (by omega)⟩

/-- Whatever keeps all the old blocks keeps what a slice reads as. -/
theorem Row.keep {w w' : World} {A : Option Addr} {n size : Nat} {cs : List Value} (h : Row w A n size cs) (hk : ∀ p : Addr, p.block < w.heap.size → w'.cell? p = w.cell? p) (hs : w.heap.size ≤ w'.heap.size) : Row w' A n size cs :=
  ⟨h.1, fun hn => by
    obtain ⟨b, off, e, hb, hc⟩ := h.2 hn
    exact ⟨b, off, e, by omega, fun j u hu => (hk _ hb).trans (hc j u hu)⟩⟩
theorem Row.below {w w' : World} {A : Option Addr} {n size : Nat} {cs : List Value} (h : Row w A n size cs) (hb : Below w.heap.size w w') : Row w' A n size cs :=
  h.keep (fun _ hp => hb.cell hp) hb.size
theorem Row.alloc {w : World} {A : Option Addr} {n size : Nat} {cs : List Value} (h : Row w A n size cs) (o : Go.Obj) : Row (w.alloc o) A n size cs := h.below ((Below.refl _ _).alloc (Nat.le_refl _) o)
theorem Row.drew {w : World} {A : Option Addr} {n size : Nat} {cs : List Value} (h : Row w A n size cs) : Row w.drew A n size cs := h
/-- A row other than the one that was written. -/
theorem Row.grown {w w' : World} {A : Option Addr} {n size : Nat} {cs : List Value} {row : Option Nat} (h : Row w A n size cs) (hg : w.grownBy w' row) (hne : 0 < n → ∀ a, A = some a → row ≠ some a.block) : Row w' A n size cs :=
  ⟨h.1, fun hn => by
    obtain ⟨b, off, rfl, hb, hc⟩ := h.2 hn
    refine ⟨b, off, rfl, Nat.lt_of_lt_of_le hb hg.size, fun j u hu => ?_⟩
    rw [World.cell?_of_block (w := w) (w' := w') (hg.block b hb (fun e => hne hn _ rfl e.symm))]
    exact hc j u hu⟩
/-- What is owned reads. -/
theorem Row.of_own {w : World} {base e size n c : Nat} {A : Option Addr} {xs : List Value} (h : w.ownsRow base e size (.slice A n c) n xs) : Row w A n size xs := by
  refine ⟨h.1, fun hn => ?_⟩
  rcases h.2 with ⟨hv, h0⟩ | ⟨g, cap, cur, hv, hg, hh, hnc, hcm, hcs, ht⟩
  · omega
  · simp only [Value.slice.injEq] at hv
    obtain ⟨rfl, _, rfl⟩ := hv
    refine ⟨g, 0, rfl, (Array.getElem?_eq_some_iff.1 hh).1, fun j u hu => ?_⟩
    have := h.cells (g := g) rfl j u hu
    by_cases hj : j = 0
    · subst hj; simpa [Addr.add] using this
    · simpa [Addr.add, hj] using this
/-- The value of a row that is owned is a slice. -/
theorem own_slice {w : World} {base e size n : Nat} {v : Value} {xs : List Value} (h : w.ownsRow base e size v n xs) : ∃ A c, v = .slice A n c ∧ (∀ a, A = some a → base ≤ a.block ∧ a.block < w.heap.size ∧ a.off = 0 ∧ a.spot = none) ∧ n ≤ c ∧ c ≤ maxLen := by
  rcases h.2 with ⟨rfl, rfl⟩ | ⟨g, cap, cur, rfl, hg, hh, hnc, hcm, hcs, ht⟩
  · exact ⟨none, 0, rfl, fun a h => by simp at h, Nat.le_refl _, by simp [maxLen]⟩
  · exact ⟨_, cap, rfl, fun a h => by injection h with h; subst h; exact ⟨hg, (Array.getElem?_eq_some_iff.1 hh).1, rfl, rfl⟩, hnc, hcm⟩

/-! ## bytes and strings -/
def byteCells (L : List UInt8) : List Value := L.map fun u => .int .u8 (u.toNat : Int)
def strOf (L : List UInt8) : ByteArray := ⟨L.toArray⟩
theorem foldl_push (L : List UInt8) : ∀ (s : ByteArray), (L.map fun u : UInt8 => (u.toNat : Int)).foldl (fun r n => r.push (UInt8.ofNat n.toNat)) s = ⟨s.data ++ L.toArray⟩ := by
  induction L with
  | nil => intro s; simp
  | cons a L ih =>
    intro s
    simp only [List.map_cons, List.foldl_cons, ih]
    congr 1
    simp [ByteArray.push]
theorem run_string_row {P : Program} {w : World} {src dst e : TypeId} {A : Option Addr} {n c : Nat} {L : List UInt8} (h : Row w A n 1 (byteCells L))
    (hs : P.underlying src = some (.slice e)) (he : P.underlying e = some (.int .u8)) (hd : P.underlying dst = some .string) :
    (convert src dst (.slice A n c)).run P w = .ok (.string (strOf L)) w := by
  rw [run_convert_bytes_string w src dst e A n c hs he hd]
  have hl : L.length = n := by have := h.1; simpa [byteCells] using this
  cases A with
  | none =>
    have h0 : n = 0 := by
      rcases Nat.eq_zero_or_pos n with h0 | h0
      · exact h0
      · obtain ⟨_, _, e, _⟩ := h.2 h0; cases e
    subst h0
    have : L = [] := List.eq_nil_of_length_eq_zero hl
    subst this
    simp [Conv.bytesToString, strOf]; rfl
  | some a =>
    have hc : ∀ j v, (byteCells L)[j]? = some v → w.cell? (a.add j) = some v := by
      intro j v hv
      have hj : j < L.length := by
        have := (List.getElem?_eq_some_iff.1 hv).1
        simpa [byteCells] using this
      obtain ⟨b, off, e, _, hc⟩ := h.2 (by omega)
      simp only [Option.some.injEq] at e
      subst e
      have := hc j v hv
      by_cases hj0 : j = 0
      · subst hj0; simpa [Addr.add] using this
      · simpa [Addr.add, hj0] using this
    have := run_loadCells_list (P := P) (w := w) a (byteCells L) hc
    rw [show (byteCells L).length = n by simp [byteCells, hl]] at this
    have e : byteCells L = (L.map fun u : UInt8 => (u.toNat : Int)).map (Value.int .u8) := by simp [byteCells]
    rw [e] at this
    rw [run_bytesToString w a n c _ this, foldl_push]
    simp [strOf]
theorem byteCells_append (a b : List UInt8) : byteCells (a ++ b) = byteCells a ++ byteCells b := by simp [byteCells]
theorem byteCells_len (a : List UInt8) : (byteCells a).length = a.length := by simp [byteCells]

/-! ## data -/
abbrev Px := Int × Int
structure FPic where
  w : Int
  h : Int
  p : List Px
structure FRect where
  x : Int
  y : Int
  w : Int
  h : Int
structure FObj where
  id : Int
  x : Int
  y : Int
  pic : FPic
  clip : FRect
  shown : Bool
structure FFrame where
  pic : FPic
  delay : Int
structure FOp where
  kind : Int
  id : Int
  a : Int
  b : Int
  c : Int
  d : Int
  pic : FPic
/-- Something with a picture, and where its pixels lie. -/
structure FAt (α : Type) where
  x : α
  A : Option Addr
  n : Nat
  c : Nat

def pxCells (l : List Px) : List Value := l.flatMap fun p => [.int .i64 p.1, .int .i64 p.2]
/-- The slice (A, n) reads as the pixels l. -/
def Pixs (w : World) (A : Option Addr) (n : Nat) (l : List Px) : Prop := l.length = n ∧ Row w A n 2 (pxCells l)

def frCells (r : FAt FFrame) : List Value := [.int .i64 r.x.pic.w, .int .i64 r.x.pic.h, .slice r.A r.n r.c, .int .i64 r.x.delay]
def obCells (r : FAt FObj) : List Value := [.int .i64 r.x.id, .int .i64 r.x.x, .int .i64 r.x.y, .int .i64 r.x.pic.w, .int .i64 r.x.pic.h, .slice r.A r.n r.c, .int .i64 r.x.clip.x, .int .i64 r.x.clip.y, .int .i64 r.x.clip.w, .int .i64 r.x.clip.h, .bool r.x.shown]
def opCells (r : FAt FOp) : List Value := [.int .i64 r.x.kind, .int .i64 r.x.id, .int .i64 r.x.a, .int .i64 r.x.b, .int .i64 r.x.c, .int .i64 r.x.d, .int .i64 r.x.pic.w, .int .i64 r.x.pic.h, .slice r.A r.n r.c]

def Frames (w : World) (A : Option Addr) (n : Nat) (rs : List (FAt FFrame)) : Prop := rs.length = n ∧ Row w A n 4 (rs.flatMap frCells) ∧ ∀ r ∈ rs, Pixs w r.A r.n r.x.pic.p
def Objs (w : World) (A : Option Addr) (n : Nat) (rs : List (FAt FObj)) : Prop := rs.length = n ∧ Row w A n 11 (rs.flatMap obCells) ∧ ∀ r ∈ rs, Pixs w r.A r.n r.x.pic.p
def Ops (w : World) (A : Option Addr) (n : Nat) (rs : List (FAt FOp)) : Prop := rs.length = n ∧ Row w A n 9 (rs.flatMap opCells) ∧ ∀ r ∈ rs, Pixs w r.A r.n r.x.pic.p

/-- In a list of cells that go size by size: cell j of element k. -/
theorem flat_at {α : Type} {enc : α → List Value} {size : Nat} (hs : ∀ a, (enc a).length = size) : ∀ (l : List α) (k j : Nat) (a : α), l[k]? = some a → j < size → (l.flatMap enc)[k * size + j]? = (enc a)[j]?
  | [], k, j, a, h, hj => by simp at h
  | b :: l, 0, j, a, h, hj => by
    simp only [List.getElem?_cons_zero, Option.some.injEq] at h
    subst h
    simp only [List.flatMap_cons, Nat.zero_mul, Nat.zero_add]
    rw [List.getElem?_append_left (by rw [hs]; exact hj)]
  | b :: l, k + 1, j, a, h, hj => by
    simp only [List.getElem?_cons_succ] at h
    simp only [List.flatMap_cons]
    rw [List.getElem?_append_right (by rw [hs, Nat.add_mul]; omega), hs, ← flat_at hs l k j a h hj]
    congr 1
    rw [Nat.add_mul]
    omega
theorem flat_len {α : Type} {enc : α → List Value} {size : Nat} (hs : ∀ a, (enc a).length = size) : ∀ (l : List α), (l.flatMap enc).length = l.length * size
  | [] => by simp
  | b :: l => by simp only [List.flatMap_cons, List.length_append, hs, flat_len hs l, List.length_cons, Nat.add_mul]; omega

/-- The cells of the pixels behind an address. -/
def PixAt (w : World) (b off : Nat) (l : List Px) : Prop := ∀ k (h : k < l.length), w.cell? ⟨b, off + k * 2, none⟩ = some (.int .i64 l[k].1) ∧ w.cell? ⟨b, off + k * 2 + 1, none⟩ = some (.int .i64 l[k].2)
theorem Pixs.open_ {w : World} {A : Option Addr} {n : Nat} {l : List Px} (h : Pixs w A n l) (hn : 0 < n) : ∃ b off, A = some ⟨b, off, none⟩ ∧ b < w.heap.size ∧ PixAt w b off l := by
  obtain ⟨b, off, e, hb, hc⟩ := h.2.2 hn
  refine ⟨b, off, e, hb, fun k hk => ?_⟩
  have e0 : l[k]? = some l[k] := List.getElem?_eq_getElem hk
  have f := fun j hj => flat_at (enc := fun p : Px => [.int .i64 p.1, .int .i64 p.2]) (size := 2) (fun _ => rfl) l k j _ e0 hj
  exact ⟨by have := hc (k * 2 + 0) _ (f 0 (by omega)); simpa using this, by have := hc (k * 2 + 1) _ (f 1 (by omega)); simpa [Nat.add_assoc] using this⟩
theorem Pixs.below {w w' : World} {A : Option Addr} {n : Nat} {l : List Px} (h : Pixs w A n l) (hb : Below w.heap.size w w') : Pixs w' A n l := ⟨h.1, h.2.below hb⟩
theorem PixAt.below {w w' : World} {B b off : Nat} {l : List Px} (h : PixAt w b off l) (hb : Below B w w') (hB : b < B) : PixAt w' b off l :=
  fun k hk => ⟨(hb.cell hB).trans (h k hk).1, (hb.cell hB).trans (h k hk).2⟩

def FrAt (w : World) (b off : Nat) (rs : List (FAt FFrame)) : Prop := ∀ k (h : k < rs.length), w.cell? ⟨b, off + k * 4, none⟩ = some (.int .i64 rs[k].x.pic.w) ∧ w.cell? ⟨b, off + k * 4 + 1, none⟩ = some (.int .i64 rs[k].x.pic.h) ∧
  w.cell? ⟨b, off + k * 4 + 2, none⟩ = some (.slice rs[k].A rs[k].n rs[k].c) ∧ w.cell? ⟨b, off + k * 4 + 3, none⟩ = some (.int .i64 rs[k].x.delay)
theorem Frames.open_ {w : World} {A : Option Addr} {n : Nat} {rs : List (FAt FFrame)} (h : Frames w A n rs) (hn : 0 < n) : ∃ b off, A = some ⟨b, off, none⟩ ∧ b < w.heap.size ∧ FrAt w b off rs := by
  obtain ⟨b, off, e, hb, hc⟩ := h.2.1.2 hn
  refine ⟨b, off, e, hb, fun k hk => ?_⟩
  have e0 : rs[k]? = some rs[k] := List.getElem?_eq_getElem hk
  have f := fun j hj => flat_at (enc := frCells) (size := 4) (fun _ => rfl) rs k j _ e0 hj
  exact ⟨by have := hc (k * 4 + 0) _ (f 0 (by omega)); simpa using this, by have := hc (k * 4 + 1) _ (f 1 (by omega)); simpa [Nat.add_assoc] using this,
    by have := hc (k * 4 + 2) _ (f 2 (by omega)); simpa [Nat.add_assoc] using this, by have := hc (k * 4 + 3) _ (f 3 (by omega)); simpa [Nat.add_assoc] using this⟩

/-! ## boxes of rects; a region that draws and calls -/
theorem Ret.regrown {P : Program} {f : FuncId} {args : Array Value} {w : World} {d : Nat} {os : Array Go.Obj} {v : Value}
    (h : Calls P f args (Sort.grow (redrawn w d) os) (Ret v (Sort.grow (redrawn w d) os))) : Calls P f args (Sort.grow (redrawn w d) os) fun e w'' => e = .returned v ∧ ∃ p : Regrown, w'' = Sort.grow (redrawn w p.d) p.os :=
  Calls.regrown_of h
/-- Block g holds the rect r. -/
def RectAt (w : World) (g : Nat) (r : FRect) : Prop := g < w.heap.size ∧ w.cell? ⟨g, 0, none⟩ = some (.int .i64 r.x) ∧ w.cell? ⟨g, 1, none⟩ = some (.int .i64 r.y) ∧ w.cell? ⟨g, 2, none⟩ = some (.int .i64 r.w) ∧ w.cell? ⟨g, 3, none⟩ = some (.int .i64 r.h)
theorem RectAt.below {w w' : World} {g : Nat} {r : FRect} (h : RectAt w g r) (hb : Below w.heap.size w w') : RectAt w' g r :=
  ⟨Nat.lt_of_lt_of_le h.1 hb.size, (hb.cell h.1).trans h.2.1, (hb.cell h.1).trans h.2.2.1, (hb.cell h.1).trans h.2.2.2.1, (hb.cell h.1).trans h.2.2.2.2⟩
theorem RectAt.all {w : World} {g : Nat} {r : FRect} (h : RectAt w g r) (d : Nat) (os : Array Go.Obj) : (Sort.grow (redrawn w d) os).cell? ⟨g, 0, none⟩ = some (.int .i64 r.x) ∧ (Sort.grow (redrawn w d) os).cell? ⟨g, 1, none⟩ = some (.int .i64 r.y) ∧
    (Sort.grow (redrawn w d) os).cell? ⟨g, 2, none⟩ = some (.int .i64 r.w) ∧ (Sort.grow (redrawn w d) os).cell? ⟨g, 3, none⟩ = some (.int .i64 r.h) := (h.below (below_regrown w d os)).2
theorem RectAt.new (w : World) (r : FRect) (t : TypeId) : RectAt (w.alloc (.cells #[.int .i64 r.x, .int .i64 r.y, .int .i64 r.w, .int .i64 r.h] t)) w.heap.size r := ⟨by simp, by simp, by simp, by simp, by simp⟩
theorem RectAt.alloc {w : World} {g : Nat} {r : FRect} (h : RectAt w g r) (o : Go.Obj) : RectAt (w.alloc o) g r := h.below ((Below.refl _ _).alloc (Nat.le_refl _) o)

end Fb
namespace Fb
open Go Go.Proofs Go.RowKit
/-- An error, by its number (0: none). -/
def errV (n : Nat) : Value := if n = 0 then .nilIface else .iface 69 (.int .i64 n)
theorem errV_zero : errV 0 = .nilIface := rfl
theorem errV_pos {n : Nat} (h : n ≠ 0) : errV n = .iface 69 (.int .i64 n) := by unfold errV; rw [if_neg h]
theorem info_u8 : (Try.prog.info? 5).map (fun i => (i.zero, i.size, i.bytes)) = some (some (.int .u8 0), 1, 1) := by kernel_rfl
/-- 'e, is := err.(api.Errno)' of an api.Errno -/
theorem assert_ok (n : Int) (w : World) : (Instr.typeAssert (.iface 69 (.int .i64 n)) 27 69 true).run Try.prog w = .ok (.tuple #[.int .i64 n, .bool true]) w := by kernel_rfl
end Fb
namespace Fb
open Go Go.RowKit
theorem own_keep {w w1 : World} {base : Nat} {e : TypeId} {size n : Nat} {v : Value} {xs : List Value} (h : w.ownsRow base e size v n xs) (hb : Below w.heap.size w w1) : w1.ownsRow base e size v n xs := by
  obtain ⟨h1, h2⟩ := h
  refine ⟨h1, ?_⟩
  rcases h2 with h2 | ⟨g, cap, cur, hv, hg, hh, r⟩
  · exact Or.inl h2
  · exact Or.inr ⟨g, cap, cur, hv, hg, by rw [hb.block g (Array.getElem?_eq_some_iff.1 hh).1]; exact hh, r⟩
theorem new_cells (w : World) (cs : Array Value) (t : TypeId) : ∀ j u, cs.toList[j]? = some u → (w.alloc (.cells cs t)).cell? ((⟨w.heap.size, 0, none⟩ : Addr).add j) = some u := by
  intro j u hj
  have h := cell_of_row (w.alloc (.cells cs t)) w.heap.size j cs t (0, 0) (heap_alloc_new w _)
  have e : cs[j]? = some u := by rw [← hj]; simp
  rw [e] at h
  by_cases h0 : j = 0
  · subst h0; simpa [Addr.add] using h
  · simpa [Addr.add, h0] using h
/-- cell j of the element k of a row that is owned -/
theorem own_cell {α : Type} {cel : α → List Value} {size : Nat} (hcel : ∀ a, (cel a).length = size) {w : World} {base : Nat} {e : TypeId} {g n cap : Nat} {l : List α}
    (h : w.ownsRow base e size (.slice (some ⟨g, 0, none⟩) n cap) n (l.flatMap cel)) {k j : Nat} {a : α} (hk : l[k]? = some a) (hj : j < size) : w.cell? ⟨g, k * size + j, none⟩ = (cel a)[j]? := by
  have hl : l.length * size = n * size := by rw [← flat_len hcel l]; exact h.1
  have hkl : k < l.length := (List.getElem?_eq_some_iff.1 hk).1
  have : k * size + j < n * size := by
    rw [← hl]
    have h2 : (k + 1) * size ≤ l.length * size := Nat.mul_le_mul_right _ hkl
    rw [Nat.add_mul] at h2
    omega
  rw [h.cellAt _ this, flat_at hcel l k j a hk hj]
theorem flat_set {α : Type} {cel : α → List Value} {size : Nat} (hcel : ∀ a, (cel a).length = size) (i : List α) (a b : α) (j : Nat) (u : Value) (_hj : j < size) (hb : cel b = (cel a).set j u) :
    ((i ++ [a]).flatMap cel).set (i.length * size + j) u = (i ++ [b]).flatMap cel := by
  simp only [List.flatMap_append, List.flatMap_cons, List.flatMap_nil, List.append_nil]
  rw [List.set_append, if_neg (by rw [flat_len hcel]; omega), flat_len hcel, Nat.add_sub_cancel_left, hb]
/-- a block that was just made, read as a row -/
theorem row_new (w : World) (cs : Array Value) (t : TypeId) (n size : Nat) (h : cs.size = n * size) : Row (w.alloc (.cells cs t)) (some ⟨w.heap.size, 0, none⟩) n size cs.toList :=
  ⟨by simpa using h, fun _ => ⟨w.heap.size, 0, rfl, by simp, fun j u hu => by
    have h2 := new_cells w cs t j u hu
    by_cases h0 : j = 0
    · subst h0; simpa [Addr.add] using h2
    · simpa [Addr.add, h0] using h2⟩⟩
theorem pixs_none (w : World) (A : Option Addr) : Pixs w A 0 [] := ⟨rfl, Row.none_ _ _ _⟩
end Fb
namespace Fb
open Go Go.RowKit
theorem kcell {w w' : World} {B : Nat} (hb : Below B w w') {b o : Nat} {v : Value} (h : b < B) (hc : w.cell? ⟨b, o, none⟩ = some v) : w'.cell? ⟨b, o, none⟩ = some v := (hb.cell (p := ⟨b, o, none⟩) h).trans hc
/-- block g holds a picture's head -/
def PicAt (g : Nat) (pw ph : Int) (A : Option Addr) (n c : Nat) (W : World) : Prop := g < W.heap.size ∧ W.cell? ⟨g, 0, none⟩ = some (.int .i64 pw) ∧ W.cell? ⟨g, 1, none⟩ = some (.int .i64 ph) ∧ W.cell? ⟨g, 2, none⟩ = some (.slice A n c)
theorem PicAt.below {g : Nat} {pw ph : Int} {A : Option Addr} {n c : Nat} {W W' : World} (h : PicAt g pw ph A n c W) (hb : Below W.heap.size W W') : PicAt g pw ph A n c W' :=
  ⟨Nat.lt_of_lt_of_le h.1 hb.size, kcell hb h.1 h.2.1, kcell hb h.1 h.2.2.1, kcell hb h.1 h.2.2.2⟩
theorem PicAt.new (W : World) (pw ph : Int) (A : Option Addr) (n c : Nat) (t : TypeId) : PicAt W.heap.size pw ph A n c (W.alloc (.cells #[.int .i64 pw, .int .i64 ph, .slice A n c] t)) := ⟨by simp, by simp, by simp, by simp⟩
def PxAt (g : Nat) (v a : Int) (W : World) : Prop := g < W.heap.size ∧ W.cell? ⟨g, 0, none⟩ = some (.int .i64 v) ∧ W.cell? ⟨g, 1, none⟩ = some (.int .i64 a)
theorem PxAt.below {g : Nat} {v a : Int} {W W' : World} (h : PxAt g v a W) (hb : Below W.heap.size W W') : PxAt g v a W' := ⟨Nat.lt_of_lt_of_le h.1 hb.size, kcell hb h.1 h.2.1, kcell hb h.1 h.2.2⟩
theorem PxAt.new (W : World) (v a : Int) (t : TypeId) : PxAt W.heap.size v a (W.alloc (.cells #[.int .i64 v, .int .i64 a] t)) := ⟨by simp, by simp, by simp⟩
def PixIn (b off : Nat) (l : List Px) (W : World) : Prop := b < W.heap.size ∧ PixAt W b off l
theorem PixIn.below {b off : Nat} {l : List Px} {W W' : World} (h : PixIn b off l W) (hb : Below W.heap.size W W') : PixIn b off l W' := ⟨Nat.lt_of_lt_of_le h.1 hb.size, fun k hk => ⟨kcell hb h.1 (h.2 k hk).1, kcell hb h.1 (h.2 k hk).2⟩⟩
theorem pixs_in {w : World} {b off n : Nat} {l : List Px} (h : Pixs w (some ⟨b, off, none⟩) n l) (hn : 0 < n) : PixIn b off l w := by
  obtain ⟨b', off', e, hb, ha⟩ := h.open_ hn
  injection e with e
  injection e with e1 e2
  subst e1 e2
  exact ⟨hb, ha⟩
end Fb
namespace Fb
open Go Go.Sort Go.RowKit
section
variable {P : Program} {md : Region.Mode} {C : World → Prop} {h : List Oper} {o : Oper}
/-- no guards, edges that point back, and a last operation that waits for each one -/
def lastB (md : Region.Mode) (h : List Oper) (o : Oper) : Bool :=
  ((List.range h.length).all fun j => (h[j]?).elim true fun x => x.guard.isNone && x.after.all fun e => decide (e.on < j)) &&
  (o.guard.isNone && ((o.after.all fun e => decide (e.on < h.length)) && (List.range h.length).all fun i => o.after.any fun e => Region.binds md e && decide (e.on = i)))
theorem lastB_head (hB : lastB md h o = true) {j : Nat} {x : Oper} (hx : h[j]? = some x) : x.guard = none ∧ ∀ e ∈ x.after, e.on < j := by
  unfold lastB at hB
  simp only [Bool.and_eq_true] at hB
  have hj := (List.getElem?_eq_some_iff.1 hx).1
  have h1 := List.all_eq_true.1 hB.1 j (List.mem_range.2 hj)
  rw [hx] at h1
  simp only [Option.elim_some, Bool.and_eq_true, Option.isNone_iff_eq_none] at h1
  exact ⟨h1.1, fun e he => by simpa using Array.all_eq_true'.1 h1.2 e he⟩
theorem lastB_last (hB : lastB md h o = true) : o.guard = none ∧ (∀ e ∈ o.after, e.on < h.length) ∧ ∀ i, i < h.length → ∃ e ∈ o.after, Region.binds md e = true ∧ e.on = i := by
  unfold lastB at hB
  simp only [Bool.and_eq_true, Option.isNone_iff_eq_none] at hB
  obtain ⟨-, h1, h2, h3⟩ := hB
  refine ⟨h1, fun e he => by simpa using Array.all_eq_true'.1 h2 e he, fun i hi => ?_⟩
  obtain ⟨e, he, hb⟩ := Array.any_eq_true'.1 (List.all_eq_true.1 h3 i (List.mem_range.2 hi))
  simp only [Bool.and_eq_true, decide_eq_true_eq] at hb
  exact ⟨e, he, hb.1, hb.2⟩
/-- what is listed, without and with the last operation -/
structure Both2 (n : Nat) (l' l : Array Bool) : Prop where
  s1 : l'.size = n
  s2 : l.size = n + 1
  eq : ∀ i, i < n → l'[i]? = l[i]?
  last : l[n]? = some false
theorem Both2.getD {n : Nat} {l' l : Array Bool} (b : Both2 n l' l) {i : Nat} (hi : i < n) (d : Bool) : l'.getD i d = l.getD i d := by
  have := b.eq i hi
  rw [Array.getD_eq_getD_getElem?, Array.getD_eq_getD_getElem?, this]
theorem Both2.set {n : Nat} {l' l : Array Bool} (b : Both2 n l' l) {i : Nat} (hi : i < n) : Both2 n (l'.setIfInBounds i true) (l.setIfInBounds i true) :=
  ⟨by simp [b.s1], by simp [b.s2], fun j hj => by
    rw [Array.getElem?_setIfInBounds, Array.getElem?_setIfInBounds, b.s1, b.s2, b.eq j hj]
    by_cases e : i = j
    · subst e; simp [hi]; omega
    · simp [e], by rw [Array.getElem?_setIfInBounds, if_neg (by omega)]; exact b.last⟩
theorem at_head {i : Nat} (hi : i < h.length) : (h ++ [o]).toArray[i]? = h[i]? := by simp [List.getElem?_append_left hi]
theorem at_last : (h ++ [o]).toArray[h.length]? = some o := by simp
def AllL (n : Nat) (l : Array Bool) : Prop := ∀ j, j < n → l.getD j false = true
theorem ready_down (hB : lastB md h o = true) {l' l : Array Bool} (b : Both2 h.length l' l) {i : Nat} (hr : i ∈ Region.ready md (h ++ [o]).toArray l) :
    (i < h.length ∧ i ∈ Region.ready md h.toArray l') ∨ (i = h.length ∧ AllL h.length l') := by
  obtain ⟨h1, x, h2, h3⟩ := mem_ready.1 hr
  have hi : i < h.length + 1 := by
    have := (Array.getElem?_eq_some_iff.1 h2).1
    simpa using this
  rcases Nat.lt_or_ge i h.length with hlt | hge
  · left
    rw [at_head hlt] at h2
    refine ⟨hlt, mem_ready.2 ⟨by rw [b.getD hlt]; exact h1, x, by simpa using h2, fun e he hb => ?_⟩⟩
    rw [b.getD (Nat.lt_trans ((lastB_head hB h2).2 e he) hlt)]
    exact h3 e he hb
  · right
    obtain rfl : i = h.length := by omega
    rw [at_last] at h2
    injection h2 with h2
    subst h2
    refine ⟨rfl, fun j hj => ?_⟩
    obtain ⟨e, he, hb, rfl⟩ := (lastB_last hB).2.2 j hj
    rw [b.getD hj]
    exact h3 e he hb
theorem ready_up (hB : lastB md h o = true) {l' l : Array Bool} (b : Both2 h.length l' l) {i : Nat} (hi : i < h.length) (hr : i ∈ Region.ready md h.toArray l') : i ∈ Region.ready md (h ++ [o]).toArray l := by
  obtain ⟨h1, x, h2, h3⟩ := mem_ready.1 hr
  have h2' : h[i]? = some x := by simpa using h2
  refine mem_ready.2 ⟨by rw [← b.getD hi]; exact h1, x, by rw [at_head hi]; exact h2', fun e he hb => ?_⟩
  rw [← b.getD (Nat.lt_trans ((lastB_head hB h2').2 e he) hi)]
  exact h3 e he hb
theorem ready_last (hB : lastB md h o = true) {l' l : Array Bool} (b : Both2 h.length l' l) (ha : AllL h.length l') : h.length ∈ Region.ready md (h ++ [o]).toArray l := by
  refine mem_ready.2 ⟨by rw [Array.getD_eq_getD_getElem?, b.last]; rfl, o, at_last, fun e he _ => ?_⟩
  have hlt := (lastB_last hB).2.1 e he
  rw [← b.getD hlt]
  exact ha _ hlt
/-- where nothing may come up, all is listed -/
theorem all_of_none (hB : lastB md h o = true) {l' : Array Bool} (hs : l'.size = h.length) (hr : Region.ready md h.toArray l' = []) : AllL h.length l' := by
  intro j
  induction j using Nat.strongRecOn with
  | _ j ih =>
    intro hj
    cases hd : l'.getD j true with
    | true =>
      rw [Array.getD_eq_getD_getElem?] at hd ⊢
      rw [Array.getElem?_eq_getElem (by omega)] at hd ⊢
      simpa using hd
    | false =>
      exfalso
      have hx : h[j]? = some h[j] := List.getElem?_eq_getElem hj
      have : j ∈ Region.ready md h.toArray l' := mem_ready.2 ⟨hd, h[j], by simp, fun e he _ => ih e.on ((lastB_head hB hx).2 e he) (Nat.lt_trans ((lastB_head hB hx).2 e he) hj)⟩
      rw [hr] at this
      cases this
theorem none_of_all {l : Array Bool} {ops : Array Oper} (ha : ∀ j, j < ops.size → l.getD j true = true) : Region.ready md ops l = [] := by
  cases hr : Region.ready md ops l with
  | nil => rfl
  | cons i r =>
    exfalso
    have : i ∈ Region.ready md ops l := by rw [hr]; simp
    obtain ⟨h1, x, h2, -⟩ := mem_ready.1 this
    rw [ha i (Array.getElem?_eq_some_iff.1 h2).1] at h1
    cases h1
theorem wpAny_end {ops : Array Oper} {Q : Exit → Act → World → Prop} {l : Array Bool} {a : Act} {w : World} (hr : Region.ready md ops l = []) (hq : Q .normal a w) : ∀ f, wpAny P md ops Q f l a w
  | 0 => ⟨hr, hq⟩
  | f + 1 => ⟨fun _ => hq, fun i hi => by rw [hr] at hi; cases hi⟩
theorem wanted_none {x : Oper} (hg : x.guard = none) (y) : Region.wanted x y = true := by simp [Region.wanted, hg]
theorem wpAny_tail (hB : lastB md h o = true) {Q : Exit → Act → World → Prop} : ∀ (f : Nat) (l' l : Array Bool) (a : Act) (w : World), Both2 h.length l' l → C w →
    wpAnyQ P md h.toArray C (fun a => ∀ w, C w → (o.wp P a w (fun a w => Q .normal a w) Q ∨ (o.asks P a w ∧ LetsOut Q))) f l' a → wpAny P md (h ++ [o]).toArray Q (f + 1) l a w := by
  have fin : ∀ (f : Nat) (l' l : Array Bool) (a : Act) (w : World), Both2 h.length l' l → AllL h.length l' → (o.wp P a w (fun a w => Q .normal a w) Q ∨ (o.asks P a w ∧ LetsOut Q)) → wpAny P md (h ++ [o]).toArray Q (f + 1) l a w := by
    intro f l' l a w b ha hw
    refine ⟨fun h0 => ?_, fun i hi => ?_⟩
    · have := ready_last hB b ha
      rw [h0] at this
      cases this
    · rcases ready_down hB b hi with ⟨h1, h2⟩ | ⟨rfl, -⟩
      · exfalso
        have h3 := (mem_ready.1 h2).1
        have h4 := ha i h1
        rw [Array.getD_eq_getD_getElem?, Array.getElem?_eq_getElem (by have := b.s1; omega)] at h3 h4
        simp at h3 h4
        rw [h3] at h4
        cases h4
      · unfold wpOp
        rw [at_last]
        simp only [wanted_none (lastB_last hB).1, if_true]
        have hend : ∀ j, j < (h ++ [o]).toArray.size → (l.setIfInBounds h.length true).getD j true = true := by
          intro j hj
          have hj' : j < h.length + 1 := by simpa using hj
          have hs2 := b.s2
          rw [Array.getD_eq_getD_getElem?, Array.getElem?_setIfInBounds]
          by_cases e : h.length = j
          · subst e; simp [hs2]
          · rw [if_neg e]
            have hlt : j < h.length := by omega
            have h5 := ha j hlt
            rw [b.getD hlt, Array.getD_eq_getD_getElem?, Array.getElem?_eq_getElem (by omega)] at h5
            rw [Array.getElem?_eq_getElem (by omega)]
            simpa using h5
        rcases hw with hw | hw
        · exact .inl (Oper.wp_mono (fun a' w' hq => wpAny_end (none_of_all hend) hq f) hw)
        · exact .inr hw
  intro f
  induction f with
  | zero =>
    intro l' l a w b hw hq
    exact fin 0 l' l a w b (all_of_none hB b.s1 hq.1) (hq.2 w hw)
  | succ f ih =>
    intro l' l a w b hw hq
    by_cases hr : Region.ready md h.toArray l' = []
    · exact fin (f + 1) l' l a w b (all_of_none hB b.s1 hr) (hq.1 hr w hw)
    · refine ⟨fun h0 => ?_, fun i hi => ?_⟩
      · exfalso
        cases hr' : Region.ready md h.toArray l' with
        | nil => exact hr hr'
        | cons i r =>
          have hm : i ∈ Region.ready md h.toArray l' := by rw [hr']; simp
          obtain ⟨-, x, h2, -⟩ := mem_ready.1 hm
          have hi : i < h.length := by have := (Array.getElem?_eq_some_iff.1 h2).1; simpa using this
          have := ready_up hB b hi hm
          rw [h0] at this
          cases this
      · rcases ready_down hB b hi with ⟨h1, h2⟩ | ⟨rfl, ha⟩
        · have h3 := hq.2 i h2
          have hx : h[i]? = some h[i] := List.getElem?_eq_getElem h1
          have hg := (lastB_head hB hx).1
          unfold qOp at h3
          rw [show h.toArray[i]? = some h[i] by simp] at h3
          simp only [wanted_none hg, if_true] at h3
          unfold wpOp
          rw [at_head h1, hx]
          simp only [wanted_none hg, if_true]
          exact .inl (Oper.wp_of_quiet hw (fun a' w' hw' hk => ih _ _ a' w' (b.set h1) hw' hk) h3)
        · exfalso
          apply hr
          exact none_of_all fun j hj => by
            have hj' : j < h.length := by simpa using hj
            have h5 := ha j hj'
            have hs1 := b.s1
            rw [Array.getD_eq_getD_getElem?, Array.getElem?_eq_getElem (by omega)] at h5 ⊢
            simpa using h5
/-- what stands ahead of the last operation is walked in the text's order; the last one in every world that may come of it -/
theorem wp_region_last {id : Nat} {Q : Exit → Act → World → Prop} {a : Act} {w : World} (hm : P.follows .mixedOrders = true) (hL : Region.lexB .any h.toArray = true) (hB : lastB .any h o = true)
    (hC : C { w with drawn := w.drawn + 1 }) (hw : wpQuiet P h.toArray C (fun a' => ∀ w', C w' → (o.wp P a' w' (fun a w => Q .normal a w) Q ∨ (o.asks P a' w' ∧ LetsOut Q))) h a) : (Code.region id (h ++ [o]).toArray true).wp P Q a w := by
  simp only [Region.lexB, Bool.and_eq_true] at hL
  refine wp_region_any hm ?_
  have H := wpAnyQ_lex (C := C) (md := .any) hL.1 h 0 (Array.replicate h.toArray.size false) a (by simp) (by simpa using hL.2) hw
  have := wpAny_tail (P := P) (C := C) (Q := Q) hB h.length (Array.replicate h.toArray.size false) (Array.replicate (h ++ [o]).toArray.size false) a { w with drawn := w.drawn + 1 }
    ⟨by simp, by simp, fun i hi => by simp [Array.getElem?_replicate, hi]; omega, by simp⟩ hC H
  simpa using this
/-- .. at the class 'w with some blocks laid behind it' -/
theorem wp_region_last_below {id : Nat} {Q : Exit → Act → World → Prop} {a : Act} {w : World} (hm : P.follows .mixedOrders = true) (hL : Region.lexB .any h.toArray = true) (hB : lastB .any h o = true)
    (hw : wpQuiet P h.toArray (fun w' => ∃ p : Regrown, w' = grow (redrawn w p.d) p.os) (fun a' => ∀ w', (∃ p : Regrown, w' = grow (redrawn w p.d) p.os) → (o.wp P a' w' (fun a w => Q .normal a w) Q ∨ (o.asks P a' w' ∧ LetsOut Q))) h a) : (Code.region id (h ++ [o]).toArray true).wp P Q a w :=
  wp_region_last (C := fun w' => ∃ p : Regrown, w' = grow (redrawn w p.d) p.os) hm hL hB ⟨⟨w.drawn + 1, #[]⟩, by rw [grow_empty]; rfl⟩ hw
/-- .. the operations written out; the last one as a list of one, as a plain walk has it -/
theorem wp_region_last_at {id : Nat} {Q : Exit → Act → World → Prop} {a : Act} {w : World} {l : List Oper} (n : Nat) (o : Oper) (hd : l.drop n = [o]) (hm : P.follows .mixedOrders = true) (hL : Region.lexB .any (l.take n).toArray = true) (hB : lastB .any (l.take n) o = true)
    (hw : wpQuiet P (l.take n).toArray (fun w' => ∃ p : Regrown, w' = grow (redrawn w p.d) p.os) (fun a' => ∀ w', (∃ p : Regrown, w' = grow (redrawn w p.d) p.os) → wpList P l.toArray Q [o] a' w') (l.take n) a) : (Code.region id l.toArray true).wp P Q a w := by
  have e : l = l.take n ++ [o] := by rw [← hd, List.take_append_drop]
  have hg := (lastB_last hB).1
  have H := wp_region_last_below (P := P) (id := id) (Q := Q) (a := a) (w := w) hm hL hB (by
    have hmono : ∀ (K K' : Act → Prop), (∀ a, K a → K' a) → ∀ (ops : Array Oper) (l : List Oper) (a : Act), wpQuiet P ops (fun w' => ∃ p : Regrown, w' = grow (redrawn w p.d) p.os) K l a → wpQuiet P ops (fun w' => ∃ p : Regrown, w' = grow (redrawn w p.d) p.os) K' l a := by
      intro K K' hk ops l
      induction l with
      | nil => intro a h; exact hk a h
      | cons x l ih =>
        intro a h
        unfold wpQuiet at h ⊢
        split
        · rename_i hwn; rw [if_pos hwn] at h; exact Oper.quiet_mono (fun a h => ih a h) h
        · rename_i hwn; rw [if_neg hwn] at h; exact ih _ h
    refine hmono _ _ (fun a' h w' hw' => ?_) _ _ _ hw
    have h2 := h w' hw'
    unfold wpList at h2
    rw [if_pos (wanted_none hg _)] at h2
    exact h2)
  rw [e]
  simpa [← e] using H
end
end Fb
set_option linter.unusedSimpArgs false
set_option linter.unusedVariables false
namespace Fb
open Go Go.Sort Go.RowKit
theorem runN_two {P : Program} : ∀ (n k : Nat) (m m1 m2 : Machine), runN P n m = .next m1 → runN P (n + k) m = .next m2 → runN P k m1 = .next m2
  | 0, k, m, m1, m2, h1, h2 => by
    rw [Nat.zero_add] at h2
    simp only [runN] at h1
    injection h1 with h1
    subst h1
    exact h2
  | n + 1, k, m, m1, m2, h1, h2 => by
    rw [show n + 1 + k = (n + k) + 1 by omega] at h2
    simp only [runN] at h1 h2
    cases hs : step P m with
    | next m0 => rw [hs] at h1 h2; exact runN_two n k m0 m1 m2 h1 h2
    | _ => rw [hs] at h1; cases h1
/-- a caller that goes no further, whatever it is handed -/
def deaf : Frame := { fn := 0, tmps := #[], todo := [.code (.exit 0)], defers := [], mode := .run, kind := .normal }
theorem deaf_ends {P : Program} {w : World} (v : Value) : ∃ o w', step P (lone (deaf.finish v) [] w) = .ended o w' :=
  ⟨.stuck "exit, goto: no such block or label" (deaf.pos P), w, step_lone_ended (by simp [stepG, deaf, Frame.finish, stepG.exec, exitTo])⟩
/-- one call, two values: they are the same -/
theorem stop_unique {P : Program} {m : Machine} {v1 v2 : Value} {fr1 fr2 : Frame} {w1 w2 : World} (l1 : fr1.leaving P w1 (.returned v1)) (l2 : fr2.leaving P w2 (.returned v2))
    (h1 : Steps P m (lone fr1 [deaf] w1)) (h2 : Steps P m (lone fr2 [deaf] w2)) : v1 = v2 := by
  obtain ⟨n, hn⟩ := h1
  obtain ⟨k, hk⟩ := h2
  have stuck : ∀ (j : Nat) (fr fr' : Frame) (w w' : World) (v : Value), fr.leaving P w (.returned v) → runN P j (lone fr [deaf] w) = .next (lone fr' [deaf] w') → lone fr [deaf] w = lone fr' [deaf] w' := by
    intro j fr fr' w w' v hl h
    cases j with
    | zero => simp only [runN] at h; injection h
    | succ j =>
      simp only [runN] at h
      rw [step_leave_returned hl] at h
      simp only at h
      cases j with
      | zero => simp only [runN] at h; injection h with h; unfold lone at h; simp at h
      | succ j =>
        simp only [runN] at h
        obtain ⟨o, w2, e⟩ := deaf_ends (P := P) (w := w) v
        rw [e] at h
        cases h
  have hm : lone fr1 [deaf] w1 = lone fr2 [deaf] w2 := by
    rcases Nat.le_total n k with h | h
    · obtain ⟨d, rfl⟩ : ∃ d, k = n + d := ⟨k - n, by omega⟩
      exact stuck d fr1 fr2 w1 w2 v1 l1 (runN_two n d m _ _ hn hk)
    · obtain ⟨d, rfl⟩ : ∃ d, n = k + d := ⟨n - k, by omega⟩
      exact (stuck d fr2 fr1 w2 w1 v2 l2 (runN_two k d m _ _ hk hn)).symm
  have s1 := step_leave_returned (c := deaf) (cs := []) l1
  unfold lone at hm
  simp at hm
  obtain ⟨e1, e2⟩ := hm
  subst e1 e2
  obtain ⟨-, -, -, f1, h1, g1⟩ := l1
  obtain ⟨-, -, -, f2, h2, g2⟩ := l2
  rw [h1] at h2
  injection h2 with h2
  subst h2
  rw [g1] at g2
  injection g2
theorem Calls.same {P : Program} {f : FuncId} {args : Array Value} {w : World} {v1 v2 : Value} {C1 C2 : World → Prop} (h1 : Calls P f args w fun e w' => e = .returned v1 ∧ C1 w') (h2 : Calls P f args w fun e w' => e = .returned v2 ∧ C2 w') : v1 = v2 := by
  obtain ⟨_, w1, fr1, ⟨rfl, -⟩, c1, -, l1⟩ := h1 [deaf]
  obtain ⟨_, w2, fr2, ⟨rfl, -⟩, c2, -, l2⟩ := h2 [deaf]
  exact stop_unique l1 l2 c1 c2
section
variable {P : Program} {md : Region.Mode} {C : World → Prop} {h : List Oper} {oa os : Oper}
/-- a quiet operation's value at one world is one -/
theorem quietAt_same {o : Oper} {a : Act} {C1 C2 : World → Prop} {w : World} {v1 v2 : Value} (h1 : o.quietAt P a C1 w v1) (h2 : o.quietAt P a C2 w v2) : v1 = v2 := by
  unfold Oper.quietAt at h1 h2
  generalize (execOp a.eval o).run P w = r at h1 h2
  cases r with
  | ok n w' =>
    cases n <;> simp only [Oper.quietUpon] at h1 h2
    case value u => rw [← h1.2, ← h2.2]
    case skip => rw [h1.2, h2.2]
    case enter f args => exact Calls.same h1.2 h2.2
  | halt x w' => simp only [Oper.quietUpon] at h1
/-- each operation of h looks at no slot d, and writes none; it has no guard, it is no select, its edges point back -/
def awayB (md : Region.Mode) (h : List Oper) (d : Tmp) : Bool :=
  (List.range h.length).all fun j => (h[j]?).elim true fun x => (x.guard.isNone && x.after.all fun e => decide (e.on < j)) && (!(x.looksAt h.toArray).contains d && x.dst != some d) && (match x.op with | .select .. => false | _ => true)
structure Away (h : List Oper) (d : Tmp) (j : Nat) (x : Oper) : Prop where
  guard : x.guard = none
  after : ∀ e ∈ x.after, e.on < j
  looks : d ∉ x.looksAt h.toArray
  dst : x.dst ≠ some d
  sel : ∀ cs b, x.op ≠ .select cs b
theorem awayB_spec {d : Tmp} (hB : awayB md h d = true) {j : Nat} {x : Oper} (hx : h[j]? = some x) : Away h d j x := by
  unfold awayB at hB
  have hj := (List.getElem?_eq_some_iff.1 hx).1
  have h1 := List.all_eq_true.1 hB j (List.mem_range.2 hj)
  rw [hx] at h1
  simp only [Option.elim_some, Bool.and_eq_true, Option.isNone_iff_eq_none] at h1
  obtain ⟨⟨⟨g1, g2⟩, g3, g4⟩, g5⟩ := h1
  refine ⟨g1, fun e he => by simpa using Array.all_eq_true'.1 g2 e he, by simpa using g3, by simpa using g4, fun cs b he => ?_⟩
  rw [he] at g5
  simp at g5
theorem wpAnyQ_put {d : Tmp} {v : Value} (hB : awayB md h d = true) {K : Act → Prop} : ∀ (f : Nat) (l' : Array Bool) (a : Act), wpAnyQ P md h.toArray C K f l' a → wpAnyQ P md h.toArray C (fun a' => ∃ a0, K a0 ∧ a' = a0.put (some d) v) f l' (a.put (some d) v) := by
  intro f
  induction f with
  | zero => intro l' a hq; exact ⟨hq.1, a, hq.2, rfl⟩
  | succ f ih =>
    intro l' a hq
    refine ⟨fun h0 => ⟨a, hq.1 h0, rfl⟩, fun i hi => ?_⟩
    have h1 := hq.2 i hi
    obtain ⟨-, x, hx, -⟩ := mem_ready.1 hi
    have hx' : h[i]? = some x := by simpa using hx
    have A := awayB_spec hB hx'
    unfold qOp at h1 ⊢
    rw [hx] at h1 ⊢
    simp only [wanted_none A.guard, if_true] at h1 ⊢
    obtain ⟨u, hu, hn⟩ := h1
    refine ⟨u, fun w hw => ?_, ?_⟩
    · have := hu w hw
      unfold Oper.quietAt at this ⊢
      rw [execOp_put (ops := h.toArray) x A.sel a (some d) v (fun d' hd => by injection hd with hd; subst hd; exact A.looks)]
      exact this
    · rw [Act.put_comm a v u (fun d' hd => by injection hd with hd; subst hd; exact A.dst)]
      exact ih _ _ hn
/-- the last two: the allocation waits for nothing; the store waits for each and for the allocation -/
def endB (md : Region.Mode) (n : Nat) (oa os : Oper) : Bool :=
  (oa.guard.isNone && oa.after.isEmpty) && (os.guard.isNone && ((os.after.all fun e => decide (e.on < n + 1)) && (List.range (n + 1)).all fun i => os.after.any fun e => Region.binds md e && decide (e.on = i)))
structure Ends (md : Region.Mode) (n : Nat) (oa os : Oper) : Prop where
  ag : oa.guard = none
  aa : oa.after = #[]
  sg : os.guard = none
  sa : ∀ e ∈ os.after, e.on < n + 1
  sw : ∀ i, i < n + 1 → ∃ e ∈ os.after, Region.binds md e = true ∧ e.on = i
theorem endB_spec {n : Nat} (hB : endB md n oa os = true) : Ends md n oa os := by
  unfold endB at hB
  simp only [Bool.and_eq_true, Option.isNone_iff_eq_none] at hB
  obtain ⟨⟨h1, h2⟩, h3, h4, h5⟩ := hB
  refine ⟨h1, by simpa using h2, h3, fun e he => by simpa using Array.all_eq_true'.1 h4 e he, fun i hi => ?_⟩
  obtain ⟨e, he, hb⟩ := Array.any_eq_true'.1 (List.all_eq_true.1 h5 i (List.mem_range.2 hi))
  simp only [Bool.and_eq_true, decide_eq_true_eq] at hb
  exact ⟨e, he, hb.1, hb.2⟩
structure Three (n : Nat) (x : Bool) (l' l : Array Bool) : Prop where
  s1 : l'.size = n
  s2 : l.size = n + 2
  eq : ∀ i, i < n → l'[i]? = l[i]?
  mid : l[n]? = some x
  last : l[n + 1]? = some false
theorem Three.getD {n : Nat} {x : Bool} {l' l : Array Bool} (b : Three n x l' l) {i : Nat} (hi : i < n) (d : Bool) : l'.getD i d = l.getD i d := by
  have := b.eq i hi
  rw [Array.getD_eq_getD_getElem?, Array.getD_eq_getD_getElem?, this]
theorem Three.set {n : Nat} {x : Bool} {l' l : Array Bool} (b : Three n x l' l) {i : Nat} (hi : i < n) : Three n x (l'.setIfInBounds i true) (l.setIfInBounds i true) :=
  ⟨by simp [b.s1], by simp [b.s2], fun j hj => by
    rw [Array.getElem?_setIfInBounds, Array.getElem?_setIfInBounds, b.s1, b.s2, b.eq j hj]
    by_cases e : i = j
    · subst e; simp [hi]; omega
    · simp [e], by rw [Array.getElem?_setIfInBounds, if_neg (by omega)]; exact b.mid, by rw [Array.getElem?_setIfInBounds, if_neg (by omega)]; exact b.last⟩
theorem Three.alloc {n : Nat} {l' l : Array Bool} (b : Three n false l' l) : Three n true l' (l.setIfInBounds n true) :=
  ⟨b.s1, by simp [b.s2], fun j hj => by rw [Array.getElem?_setIfInBounds, if_neg (by omega)]; exact b.eq j hj, by rw [Array.getElem?_setIfInBounds, if_pos rfl, b.s2, if_pos (by omega)], by rw [Array.getElem?_setIfInBounds, if_neg (by omega)]; exact b.last⟩
theorem at3_head {i : Nat} (hi : i < h.length) : (h ++ [oa, os]).toArray[i]? = h[i]? := by simp [List.getElem?_append_left hi]
theorem at3_mid : (h ++ [oa, os]).toArray[h.length]? = some oa := by simp
theorem at3_last : (h ++ [oa, os]).toArray[h.length + 1]? = some os := by simp
theorem three_down {d : Tmp} (hB : awayB md h d = true) (hE : Ends md h.length oa os) {x : Bool} {l' l : Array Bool} (b : Three h.length x l' l) {i : Nat} (hr : i ∈ Region.ready md (h ++ [oa, os]).toArray l) :
    (i < h.length ∧ i ∈ Region.ready md h.toArray l') ∨ (i = h.length ∧ x = false) ∨ (i = h.length + 1 ∧ x = true ∧ AllL h.length l') := by
  obtain ⟨h1, o, h2, h3⟩ := mem_ready.1 hr
  have hi : i < h.length + 2 := by
    have := (Array.getElem?_eq_some_iff.1 h2).1
    simpa using this
  rcases Nat.lt_trichotomy i h.length with hlt | he | hge
  · left
    rw [at3_head hlt] at h2
    refine ⟨hlt, mem_ready.2 ⟨by rw [b.getD hlt]; exact h1, o, by simpa using h2, fun e he hb => ?_⟩⟩
    rw [b.getD (Nat.lt_trans ((awayB_spec hB h2).after e he) hlt)]
    exact h3 e he hb
  · right; left
    subst he
    refine ⟨rfl, ?_⟩
    rw [Array.getD_eq_getD_getElem?, b.mid] at h1
    exact h1
  · right; right
    obtain rfl : i = h.length + 1 := by omega
    rw [at3_last] at h2
    injection h2 with h2
    subst h2
    refine ⟨rfl, ?_, fun j hj => ?_⟩
    · obtain ⟨e, he, hb, he2⟩ := hE.sw h.length (by omega)
      have := h3 e he hb
      rw [he2, Array.getD_eq_getD_getElem?, b.mid] at this
      exact this
    · obtain ⟨e, he, hb, he2⟩ := hE.sw j (by omega)
      have := h3 e he hb
      rw [he2] at this
      rw [b.getD hj]
      exact this
theorem three_up {d : Tmp} (hB : awayB md h d = true) {x : Bool} {l' l : Array Bool} (b : Three h.length x l' l) {i : Nat} (hi : i < h.length) (hr : i ∈ Region.ready md h.toArray l') : i ∈ Region.ready md (h ++ [oa, os]).toArray l := by
  obtain ⟨h1, o, h2, h3⟩ := mem_ready.1 hr
  have h2' : h[i]? = some o := by simpa using h2
  refine mem_ready.2 ⟨by rw [← b.getD hi]; exact h1, o, by rw [at3_head hi]; exact h2', fun e he hb => ?_⟩
  rw [← b.getD (Nat.lt_trans ((awayB_spec hB h2').after e he) hi)]
  exact h3 e he hb
theorem three_mid (hE : Ends md h.length oa os) {l' l : Array Bool} (b : Three h.length false l' l) : h.length ∈ Region.ready md (h ++ [oa, os]).toArray l :=
  mem_ready.2 ⟨by rw [Array.getD_eq_getD_getElem?, b.mid]; rfl, oa, at3_mid, fun e he _ => by rw [hE.aa] at he; simp at he⟩
theorem three_last (hE : Ends md h.length oa os) {l' l : Array Bool} (b : Three h.length true l' l) (ha : AllL h.length l') : h.length + 1 ∈ Region.ready md (h ++ [oa, os]).toArray l := by
  refine mem_ready.2 ⟨by rw [Array.getD_eq_getD_getElem?, b.last]; rfl, os, at3_last, fun e he _ => ?_⟩
  have hlt := hE.sa e he
  rcases Nat.lt_or_ge e.on h.length with h1 | h1
  · rw [← b.getD h1]; exact ha _ h1
  · rw [show e.on = h.length by omega, Array.getD_eq_getD_getElem?, b.mid]; rfl
theorem three_all {d : Tmp} (hB : awayB md h d = true) {l' : Array Bool} (hs : l'.size = h.length) (hr : Region.ready md h.toArray l' = []) : AllL h.length l' := by
  intro j
  induction j using Nat.strongRecOn with
  | _ j ih =>
    intro hj
    cases hd : l'.getD j true with
    | true =>
      rw [Array.getD_eq_getD_getElem?] at hd ⊢
      rw [Array.getElem?_eq_getElem (by omega)] at hd ⊢
      simpa using hd
    | false =>
      exfalso
      have hx : h[j]? = some h[j] := List.getElem?_eq_getElem hj
      have : j ∈ Region.ready md h.toArray l' := mem_ready.2 ⟨hd, h[j], by simp, fun e he _ => ih e.on ((awayB_spec hB hx).after e he) (Nat.lt_trans ((awayB_spec hB hx).after e he) hj)⟩
      rw [hr] at this
      cases this
/-- behind the allocation: the rest in whatever order -/
theorem wpAny_behind {d : Tmp} (hB : awayB md h d = true) (hE : Ends md h.length oa os) {Q : Exit → Act → World → Prop} {K : Act → Prop}
    (hK : ∀ a w, C w → K a → (os.wp P a w (fun a w => Q .normal a w) Q ∨ (os.asks P a w ∧ LetsOut Q))) : ∀ (f : Nat) (l' l : Array Bool) (a : Act) (w : World), Three h.length true l' l → C w →
    wpAnyQ P md h.toArray C K f l' a → wpAny P md (h ++ [oa, os]).toArray Q (f + 1) l a w := by
  have fin : ∀ (f : Nat) (l' l : Array Bool) (a : Act) (w : World), Three h.length true l' l → AllL h.length l' → C w → K a → wpAny P md (h ++ [oa, os]).toArray Q (f + 1) l a w := by
    intro f l' l a w b ha hw hk
    refine ⟨fun h0 => ?_, fun i hi => ?_⟩
    · have := three_last hE b ha
      rw [h0] at this
      cases this
    · rcases three_down hB hE b hi with ⟨h1, h2⟩ | ⟨-, h2⟩ | ⟨rfl, -, -⟩
      · exfalso
        have h3 := (mem_ready.1 h2).1
        have h4 := ha i h1
        rw [Array.getD_eq_getD_getElem?, Array.getElem?_eq_getElem (by have := b.s1; omega)] at h3 h4
        simp at h3 h4
        rw [h3] at h4
        cases h4
      · cases h2
      · unfold wpOp
        rw [at3_last]
        simp only [wanted_none hE.sg, if_true]
        have hend : ∀ j, j < (h ++ [oa, os]).toArray.size → (l.setIfInBounds (h.length + 1) true).getD j true = true := by
          intro j hj
          have hj' : j < h.length + 2 := by simpa using hj
          have hs2 := b.s2
          rw [Array.getD_eq_getD_getElem?, Array.getElem?_setIfInBounds]
          by_cases e : h.length + 1 = j
          · subst e; simp [hs2]
          · rw [if_neg e]
            rcases Nat.lt_or_ge j h.length with hlt | hge
            · have h5 := ha j hlt
              rw [b.getD hlt, Array.getD_eq_getD_getElem?, Array.getElem?_eq_getElem (by omega)] at h5
              rw [Array.getElem?_eq_getElem (by omega)]
              simpa using h5
            · rw [show j = h.length by omega, b.mid]; rfl
        rcases hK a w hw hk with hw' | hw'
        · exact .inl (Oper.wp_mono (fun a' w' hq => wpAny_end (none_of_all hend) hq f) hw')
        · exact .inr hw'
  intro f
  induction f with
  | zero =>
    intro l' l a w b hw hq
    exact fin 0 l' l a w b (three_all hB b.s1 hq.1) hw hq.2
  | succ f ih =>
    intro l' l a w b hw hq
    by_cases hr : Region.ready md h.toArray l' = []
    · exact fin (f + 1) l' l a w b (three_all hB b.s1 hr) hw (hq.1 hr)
    · refine ⟨fun h0 => ?_, fun i hi => ?_⟩
      · exfalso
        cases hr' : Region.ready md h.toArray l' with
        | nil => exact hr hr'
        | cons i r =>
          have hm : i ∈ Region.ready md h.toArray l' := by rw [hr']; simp
          obtain ⟨-, x, h2, -⟩ := mem_ready.1 hm
          have hi : i < h.length := by have := (Array.getElem?_eq_some_iff.1 h2).1; simpa using this
          have := three_up (oa := oa) (os := os) hB b hi hm
          rw [h0] at this
          cases this
      · rcases three_down hB hE b hi with ⟨h1, h2⟩ | ⟨-, h2⟩ | ⟨rfl, -, ha⟩
        · have h3 := hq.2 i h2
          have hx : h[i]? = some h[i] := List.getElem?_eq_getElem h1
          have hg := (awayB_spec hB hx).guard
          unfold qOp at h3
          rw [show h.toArray[i]? = some h[i] by simp] at h3
          simp only [wanted_none hg, if_true] at h3
          unfold wpOp
          rw [at3_head h1, hx]
          simp only [wanted_none hg, if_true]
          exact .inl (Oper.wp_of_quiet hw (fun a' w' hw' hk => ih _ _ a' w' (b.set h1) hw' hk) h3)
        · cases h2
        · exfalso
          apply hr
          exact none_of_all fun j hj => by
            have hj' : j < h.length := by simpa using hj
            have h5 := ha j hj'
            have hs1 := b.s1
            rw [Array.getD_eq_getD_getElem?, Array.getElem?_eq_getElem (by omega)] at h5 ⊢
            simpa using h5
/-- ahead of the allocation -/
theorem wpAny_ahead {d : Tmp} (hB : awayB md h d = true) (hE : Ends md h.length oa os) (hdst : oa.dst = some d) {blk : Go.Obj} (hA : ∀ (a : Act) (w : World), (execOp a.eval oa).run P w = .ok (.value (.pointer (some ⟨w.heap.size, 0, none⟩))) (w.alloc blk))
    {C : World → World → Prop} (h0 : ∀ W, C W W) (ht : ∀ W w u, C W w → C w u → C W u) (hal : ∀ w, C w (w.alloc blk)) {w0 : World} {Q : Exit → Act → World → Prop} {K : Act → Prop}
    (hK : ∀ a w1 w2, C w0 w1 → C (w1.alloc blk) w2 → K a → (os.wp P (a.put (some d) (.pointer (some ⟨w1.heap.size, 0, none⟩))) w2 (fun a w => Q .normal a w) Q ∨ (os.asks P (a.put (some d) (.pointer (some ⟨w1.heap.size, 0, none⟩))) w2 ∧ LetsOut Q))) :
    ∀ (f : Nat) (l' l : Array Bool) (a : Act) (w : World), Three h.length false l' l → C w0 w → (∀ W, C w0 W → wpAnyQ P md h.toArray (C W) K f l' a) → wpAny P md (h ++ [oa, os]).toArray Q (f + 2) l a w := by
  intro f
  induction f with
  | zero =>
    intro l' l a w b hw hq
    refine ⟨fun e => ?_, fun i hi => ?_⟩
    · have := three_mid hE b
      rw [e] at this
      cases this
    · rcases three_down hB hE b hi with ⟨h1, h2⟩ | ⟨rfl, -⟩ | ⟨-, h2, -⟩
      · have := (hq w hw).1
        rw [this] at h2
        cases h2
      · unfold wpOp
        rw [at3_mid]
        simp only [wanted_none hE.ag, if_true]
        refine .inl ?_
        unfold Oper.wp
        rw [hA]
        simp only [Oper.upon]
        rw [hdst]
        exact wpAny_behind (C := C (w.alloc blk)) (K := fun a' => ∃ a0, K a0 ∧ a' = a0.put (some d) (.pointer (some ⟨w.heap.size, 0, none⟩))) hB hE
          (fun a' w' hw' ⟨a0, hk, e⟩ => by subst e; exact hK a0 w w' hw hw' hk) 0 l' _ _ _ b.alloc (h0 _) (wpAnyQ_put hB 0 l' a (hq _ (ht _ _ _ hw (hal _))))
      · cases h2
  | succ f ih =>
    intro l' l a w b hw hq
    refine ⟨fun e => ?_, fun i hi => ?_⟩
    · have := three_mid hE b
      rw [e] at this
      cases this
    · rcases three_down hB hE b hi with ⟨h1, h2⟩ | ⟨rfl, -⟩ | ⟨-, h2, -⟩
      · have hx : h[i]? = some h[i] := List.getElem?_eq_getElem h1
        have hg := (awayB_spec hB hx).guard
        have h3 : ∀ W, C w0 W → h[i].quiet P a (C W) (wpAnyQ P md h.toArray (C W) K f (l'.setIfInBounds i true)) := by
          intro W hW
          have h3 := (hq W hW).2 i h2
          unfold qOp at h3
          rw [show h.toArray[i]? = some h[i] by simp] at h3
          simpa only [wanted_none hg, if_true] using h3
        unfold wpOp
        rw [at3_head h1, hx]
        simp only [wanted_none hg, if_true]
        obtain ⟨v, hv, -⟩ := h3 w0 (h0 _)
        have h4 : h[i].quiet P a (C w0) (fun a' => ∀ W, C w0 W → wpAnyQ P md h.toArray (C W) K f (l'.setIfInBounds i true) a') := by
          refine ⟨v, hv, fun W hW => ?_⟩
          obtain ⟨u, hu, hn⟩ := h3 W hW
          rw [quietAt_same (hv W hW) (hu W (h0 _))]
          exact hn
        exact .inl (Oper.wp_of_quiet hw (fun a' w' hw' hk => ih _ _ a' w' (b.set h1) hw' hk) h4)
      · unfold wpOp
        rw [at3_mid]
        simp only [wanted_none hE.ag, if_true]
        refine .inl ?_
        unfold Oper.wp
        rw [hA]
        simp only [Oper.upon]
        rw [hdst]
        exact wpAny_behind (C := C (w.alloc blk)) (K := fun a' => ∃ a0, K a0 ∧ a' = a0.put (some d) (.pointer (some ⟨w.heap.size, 0, none⟩))) hB hE
          (fun a' w' hw' ⟨a0, hk, e⟩ => by subst e; exact hK a0 w w' hw hw' hk) (f + 1) l' _ _ _ b.alloc (h0 _) (wpAnyQ_put hB (f + 1) l' a (hq _ (ht _ _ _ hw (hal _))))
      · cases h2
/-- The class: w with some blocks laid behind it. -/
abbrev Grown (W w' : World) : Prop := ∃ p : Regrown, w' = grow (redrawn W p.d) p.os
theorem grown_iff {W w' : World} : Grown W w' ↔ Below W.heap.size W w' := ⟨fun ⟨p, e⟩ => by subst e; exact below_regrown _ _ _, fun h => regrown_of_below h⟩
theorem wpQuiet_mono2 {K K' : Act → Prop} (hk : ∀ a, K a → K' a) {ops : Array Oper} : ∀ (l : List Oper) (a : Act), wpQuiet P ops C K l a → wpQuiet P ops C K' l a := by
  intro l
  induction l with
  | nil => intro a h; exact hk a h
  | cons x l ih =>
    intro a h
    unfold wpQuiet at h ⊢
    split
    · rename_i hwn; rw [if_pos hwn] at h; exact Oper.quiet_mono (fun a h => ih a h) h
    · rename_i hwn; rw [if_neg hwn] at h; exact ih _ h
/-- What is read and called is walked in the text's order, in every world that has grown; the store then, wherever the new block lies. -/
theorem wp_region_alloc_last_at {id : Nat} {Q : Exit → Act → World → Prop} {a : Act} {w : World} {l : List Oper} (n : Nat) (d : Tmp) (oa os : Oper) (blk : Go.Obj) (hd : l.drop n = [oa, os])
    (hm : P.follows .mixedOrders = true) (hL : Region.lexB .any (l.take n).toArray = true) (hB : awayB .any (l.take n) d = true) (hE : endB .any (l.take n).length oa os = true) (hdst : oa.dst = some d)
    (hA : ∀ (a : Act) (w : World), (execOp a.eval oa).run P w = .ok (.value (.pointer (some ⟨w.heap.size, 0, none⟩))) (w.alloc blk))
    (hw : ∀ W, Below w.heap.size w W → wpQuiet P (l.take n).toArray (fun w' => ∃ p : Regrown, w' = grow (redrawn W p.d) p.os)
      (fun a' => ∀ g w2, w.heap.size ≤ g → w2.heap[g]? = some blk → Below w.heap.size w w2 → wpList P l.toArray Q [os] (a'.put (some d) (.pointer (some ⟨g, 0, none⟩))) w2) (l.take n) a) : (Code.region id l.toArray true).wp P Q a w := by
  have e : l = l.take n ++ [oa, os] := by rw [← hd, List.take_append_drop]
  have E := endB_spec hE
  simp only [Region.lexB, Bool.and_eq_true] at hL
  have hC : Grown w { w with drawn := w.drawn + 1 } := ⟨⟨w.drawn + 1, #[]⟩, by rw [grow_empty]; rfl⟩
  have H : ∀ W, Grown w W → wpAnyQ P .any (l.take n).toArray (Grown W) (fun a' => ∀ g w2, w.heap.size ≤ g → w2.heap[g]? = some blk → Below w.heap.size w w2 → wpList P l.toArray Q [os] (a'.put (some d) (.pointer (some ⟨g, 0, none⟩))) w2) (l.take n).length (Array.replicate (l.take n).toArray.size false) a :=
    fun W hW => wpAnyQ_lex (C := Grown W) (md := .any) hL.1 (l.take n) 0 (Array.replicate (l.take n).toArray.size false) a (by simp) (by simpa using hL.2) (hw W (grown_iff.1 hW))
  have R := wpAny_ahead (P := P) (md := .any) (h := l.take n) (oa := oa) (os := os) hB E hdst hA (C := Grown) (fun W => grown_iff.2 (Below.refl _ _)) (fun W w u h1 h2 => grown_iff.2 (bnext (grown_iff.1 h1) (grown_iff.1 h2)))
    (fun w => grown_iff.2 ((Below.refl _ _).alloc (Nat.le_refl _) _)) (w0 := w) (Q := Q) (fun a w1 w2 h1 h2 hk => by
      have b1 := grown_iff.1 h1
      have b2 := grown_iff.1 h2
      have hs := b1.size
      have h3 := hk w1.heap.size w2 hs ((b2.block _ (by simp)).trans (MapKept.heap_alloc w1 blk).1) (bnext b1 (bnext ((Below.refl _ _).alloc (Nat.le_refl _) _) b2))
      unfold wpList at h3
      rw [if_pos (wanted_none E.sg _)] at h3
      exact h3) (l.take n).length (Array.replicate (l.take n).toArray.size false) (Array.replicate (l.take n ++ [oa, os]).toArray.size false) a { w with drawn := w.drawn + 1 }
    ⟨by simp, by simp, fun i hi => by rw [Array.getElem?_replicate, Array.getElem?_replicate, if_pos (by simpa using hi), if_pos (by simp only [List.size_toArray, List.length_append]; omega)], by rw [Array.getElem?_replicate, if_pos (by simp)], by rw [Array.getElem?_replicate, if_pos (by simp)]⟩ hC H
  refine wp_region_any hm ?_
  rw [← e] at R
  have hl : l.toArray.size = (l.take n).length + 2 := by
    have := congrArg List.length e
    simpa using this
  rw [show (l.toArray).size = (l.take n).length + 2 from hl] at R ⊢
  exact R
end
theorem blk_cell {w : World} {g o : Nat} {cs : Array Value} {t : TypeId} {v : Value} (h : w.heap[g]? = some (.cells cs t (0, 0))) (ho : cs[o]? = some v) : w.cell? ⟨g, o, none⟩ = some v := by
  obtain ⟨h1, h2⟩ := Array.getElem?_eq_some_iff.1 ho
  simp [World.cell?, h, h1, h2]
theorem blk_free {w : World} {g : Nat} {cs : Array Value} {t : TypeId} (h : w.heap[g]? = some (.cells cs t (0, 0))) (o : Nat) : w.frozen? ⟨g, o, none⟩ = false := by simp [World.frozen?, h]
theorem blk_lt {w : World} {g : Nat} {o : Go.Obj} (h : w.heap[g]? = some o) : g < w.heap.size := (Array.getElem?_eq_some_iff.1 h).1
end Fb
namespace Fb
def rectFault (r : FRect) : Nat := if r.x < -20 ∨ 20 < r.x ∨ r.y < -20 ∨ 20 < r.y ∨ r.w < 0 ∨ 20 < r.w ∨ r.h < 0 ∨ 20 < r.h then 1 else 0
theorem rectFault_bd {r : FRect} (h : rectFault r = 0) : (-20 ≤ r.x ∧ r.x ≤ 20) ∧ (-20 ≤ r.y ∧ r.y ≤ 20) ∧ (0 ≤ r.w ∧ r.w ≤ 20) ∧ (0 ≤ r.h ∧ r.h ≤ 20) := by
  unfold rectFault at h
  split at h
  · cases h
  · omega
theorem rectFault_le (r : FRect) : rectFault r ≤ 1 := by unfold rectFault; split <;> omega
theorem rectFault_zero {r : FRect} (h : (-20 ≤ r.x ∧ r.x ≤ 20) ∧ (-20 ≤ r.y ∧ r.y ≤ 20) ∧ (0 ≤ r.w ∧ r.w ≤ 20) ∧ (0 ≤ r.h ∧ r.h ≤ 20)) : rectFault r = 0 := by
  unfold rectFault
  rw [if_neg (by omega)]
theorem rectFault_one {r : FRect} (h : r.x < -20 ∨ 20 < r.x ∨ r.y < -20 ∨ 20 < r.y ∨ r.w < 0 ∨ 20 < r.w ∨ r.h < 0 ∨ 20 < r.h) : rectFault r = 1 := by
  unfold rectFault
  rw [if_pos h]
def hasB (r : FRect) (x y : Int) : Bool := decide (r.x ≤ x ∧ x < r.x + r.w ∧ r.y ≤ y ∧ y < r.y + r.h)
/-- the rect that both have -/
def both (a b : FRect) : FRect :=
  if min (a.x + a.w) (b.x + b.w) - max a.x b.x ≤ 0 ∨ min (a.y + a.h) (b.y + b.h) - max a.y b.y ≤ 0 then ⟨0, 0, 0, 0⟩
  else ⟨max a.x b.x, max a.y b.y, min (a.x + a.w) (b.x + b.w) - max a.x b.x, min (a.y + a.h) (b.y + b.h) - max a.y b.y⟩
theorem both_has (a b : FRect) (x y : Int) : hasB (both a b) x y = (hasB a x y && hasB b x y) := by
  unfold both hasB
  rw [Bool.eq_iff_iff]
  simp only [Bool.and_eq_true, decide_eq_true_eq]
  split
  · constructor
    · intro h; simp at h; omega
    · intro h; simp; omega
  · simp; omega
theorem both_comm (a b : FRect) : both a b = both b a := by
  unfold both
  rw [Int.min_comm (a.x + a.w), Int.min_comm (a.y + a.h), Int.max_comm a.x, Int.max_comm a.y]
theorem both_self (a : FRect) (h1 : 0 ≤ a.w) (h2 : 0 ≤ a.h) : both a a = if a.w = 0 ∨ a.h = 0 then ⟨0, 0, 0, 0⟩ else a := by
  unfold both
  simp only [Int.min_self, Int.max_self]
  by_cases h : a.w = 0 ∨ a.h = 0
  · rw [if_pos h, if_pos (by omega)]
  · rw [if_neg h, if_neg (by omega)]
    cases a; simp; omega
/-- bounds of the rect that both have -/
theorem both_bd (a b : FRect) (hb : b.x ≤ 1000 ∧ b.y ≤ 1000) (ha : -1000 ≤ a.x ∧ a.x ≤ 1000 ∧ -1000 ≤ a.y ∧ a.y ≤ 1000 ∧ 0 ≤ a.w ∧ a.w ≤ 1000 ∧ 0 ≤ a.h ∧ a.h ≤ 1000) :
    (-1000 ≤ (both a b).x ∧ (both a b).x ≤ 1000 ∧ -1000 ≤ (both a b).y ∧ (both a b).y ≤ 1000 ∧ 0 ≤ (both a b).w ∧ (both a b).w ≤ 1000 ∧ 0 ≤ (both a b).h ∧ (both a b).h ≤ 1000) := by
  unfold both
  split
  · simp
  · simp; omega
/-- what is in both is in the first -/
theorem both_in (a b : FRect) (h : 0 < (both a b).w ∨ 0 < (both a b).h) : a.x ≤ (both a b).x ∧ (both a b).x + (both a b).w ≤ a.x + a.w ∧ a.y ≤ (both a b).y ∧ (both a b).y + (both a b).h ≤ a.y + a.h ∧
    b.x ≤ (both a b).x ∧ (both a b).x + (both a b).w ≤ b.x + b.w ∧ b.y ≤ (both a b).y ∧ (both a b).y + (both a b).h ≤ b.y + b.h := by
  unfold both at h ⊢
  split
  · rename_i h'
    rw [if_pos h'] at h
    simp at h
  · simp; omega
end Fb
namespace Fb
def through (a b : Int) : Int := (255 - a) * b / 255
def overV (av aa bv ba : Int) : Int := if aa + through aa ba = 0 then 0 else (av * aa + bv * through aa ba) / (aa + through aa ba)
def overA (aa ba : Int) : Int := aa + through aa ba
def PxOk (v a : Int) : Prop := 0 ≤ v ∧ v ≤ 255 ∧ 0 ≤ a ∧ a ≤ 255
theorem through_bd (a b : Int) (h1 : 0 ≤ a ∧ a ≤ 255) (h2 : 0 ≤ b ∧ b ≤ 255) : 0 ≤ through a b ∧ through a b ≤ 255 - a := by
  unfold through
  have h : 0 ≤ (255 - a) * b := Int.mul_nonneg (by omega) (by omega)
  have h' : (255 - a) * b ≤ (255 - a) * 255 := Int.mul_le_mul_of_nonneg_left (by omega) (by omega)
  omega
theorem overA_bd (aa ba : Int) (h1 : 0 ≤ aa ∧ aa ≤ 255) (h2 : 0 ≤ ba ∧ ba ≤ 255) : aa ≤ overA aa ba ∧ ba ≤ overA aa ba ∧ overA aa ba ≤ 255 := by
  have h := through_bd aa ba h1 h2
  refine ⟨by unfold overA; omega, ?_, by unfold overA; omega⟩
  unfold overA through
  have e : (255 - aa) * ba = 255 * ba - aa * ba := by rw [Int.sub_mul]
  have h3 : aa * ba ≤ aa * 255 := Int.mul_le_mul_of_nonneg_left (by omega) (by omega)
  rw [e]
  omega
theorem overV_bd (av aa bv ba : Int) (h1 : 0 ≤ aa ∧ aa ≤ 255) (h2 : 0 ≤ ba ∧ ba ≤ 255) (hc : overA aa ba ≠ 0) : min av bv ≤ overV av aa bv ba ∧ overV av aa bv ba ≤ max av bv := by
  have h := through_bd aa ba h1 h2
  unfold overA at hc
  unfold overV
  rw [if_neg hc]
  generalize through aa ba = t at *
  have hp : 0 < aa + t := by omega
  have a1 : min av bv * aa ≤ av * aa := Int.mul_le_mul_of_nonneg_right (by omega) (by omega)
  have a2 : min av bv * t ≤ bv * t := Int.mul_le_mul_of_nonneg_right (by omega) (by omega)
  have a3 : av * aa ≤ max av bv * aa := Int.mul_le_mul_of_nonneg_right (by omega) (by omega)
  have a4 : bv * t ≤ max av bv * t := Int.mul_le_mul_of_nonneg_right (by omega) (by omega)
  have e1 : min av bv * (aa + t) = min av bv * aa + min av bv * t := by rw [Int.mul_add]
  have e2 : max av bv * (aa + t) = max av bv * aa + max av bv * t := by rw [Int.mul_add]
  constructor
  · exact (Int.le_ediv_iff_mul_le hp).2 (by omega)
  · have : (av * aa + bv * t) / (aa + t) < max av bv + 1 := Int.ediv_lt_of_lt_mul hp (by rw [Int.add_mul]; omega)
    omega
theorem overV_full (av bv ba : Int) : overV av 255 bv ba = av := by
  unfold overV through
  simp
theorem overA_full (ba : Int) : overA 255 ba = 255 := by unfold overA through; simp
theorem through_zero (ba : Int) : through 0 ba = ba := by unfold through; omega
theorem overA_none (ba : Int) : overA 0 ba = ba := by unfold overA; rw [through_zero]; omega
theorem overV_none (av bv ba : Int) (h : ba ≠ 0) : overV av 0 bv ba = bv := by
  unfold overV
  rw [through_zero, if_neg (by omega)]
  simp
  exact Int.mul_ediv_cancel _ h
theorem overV_nil (av bv : Int) : overV av 0 bv 0 = 0 := by unfold overV; rw [through_zero]; rfl
end Fb
namespace Fb
/-- the pixels of a picture of w columns, each for which 'c row column' holds turned to 'v row column' -/
def updL (w : Nat) (l : List Px) (c : Nat → Nat → Bool) (v : Nat → Nat → Px) : List Px := l.mapIdx fun k a => if c (k / w) (k % w) then v (k / w) (k % w) else a
theorem updL_len (w : Nat) (l : List Px) (c v) : (updL w l c v).length = l.length := by simp [updL]
theorem updL_at {w : Nat} {l : List Px} {c v} {k : Nat} (h : k < l.length) (h' : k < (updL w l c v).length) : (updL w l c v)[k] = if c (k / w) (k % w) then v (k / w) (k % w) else l[k] := by simp [updL]
theorem updL_none {w : Nat} {l : List Px} {c v} (h : ∀ j i, c j i = false) : updL w l c v = l := by
  apply List.ext_getElem
  · rw [updL_len]
  · intro k h1 h2
    rw [updL_at h2, h]; simp
theorem updL_congr {w : Nat} {l : List Px} {c c' v v'} (h : ∀ k, k < l.length → c (k / w) (k % w) = c' (k / w) (k % w)) (hv : ∀ k, k < l.length → c (k / w) (k % w) = true → v (k / w) (k % w) = v' (k / w) (k % w)) : updL w l c v = updL w l c' v' := by
  apply List.ext_getElem
  · rw [updL_len, updL_len]
  · intro k h1 h2
    have hk : k < l.length := by rw [updL_len] at h1; exact h1
    rw [updL_at hk, updL_at hk, ← h k hk]
    by_cases hc : c (k / w) (k % w) = true
    · rw [if_pos hc, if_pos hc, hv k hk hc]
    · rw [if_neg hc, if_neg hc]
theorem div_mod_at {w j i : Nat} (hi : i < w) : (j * w + i) / w = j ∧ (j * w + i) % w = i := by
  have hw : 0 < w := by omega
  refine ⟨?_, ?_⟩
  · rw [Nat.mul_comm, Nat.mul_add_div hw, Nat.div_eq_of_lt hi]; omega
  · rw [Nat.mul_comm, Nat.mul_add_mod, Nat.mod_eq_of_lt hi]
theorem at_lt {w h j i : Nat} (hj : j < h) (hi : i < w) : j * w + i < w * h := by
  have : (j + 1) * w ≤ h * w := Nat.mul_le_mul_right _ hj
  rw [Nat.add_mul, Nat.mul_comm h w] at this
  omega
theorem updL_set {w : Nat} {l : List Px} {c c' v} {j i : Nat} (hi : i < w) (_hk : j * w + i < l.length) (hc : ∀ j' i', c' j' i' = (c j' i' || (decide (j' = j) && decide (i' = i)))) :
    (updL w l c v).set (j * w + i) (v j i) = updL w l c' v := by
  obtain ⟨e1, e2⟩ := div_mod_at (j := j) hi
  apply List.ext_getElem
  · rw [List.length_set, updL_len, updL_len]
  · intro k h1 h2
    have hkl : k < l.length := by rw [updL_len] at h2; exact h2
    rw [updL_at hkl, List.getElem_set]
    by_cases hkk : j * w + i = k
    · subst hkk
      rw [if_pos rfl, e1, e2, hc]
      simp
    · rw [if_neg hkk, updL_at hkl, hc]
      have : (decide (k / w = j) && decide (k % w = i)) = false := by
        by_cases h3 : k / w = j
        · by_cases h4 : k % w = i
          · exfalso
            apply hkk
            rw [← h3, ← h4, Nat.mul_comm]
            exact Nat.div_add_mod k w
          · simp [h4]
        · simp [h3]
      rw [this, Bool.or_false]
/-! ## one behind another -/
def overP (a b : Px) : Px := (overV a.1 a.2 b.1 b.2, overA a.2 b.2)
def addP (a b : Px) : Px := ((a.1 + b.1) % 256, (a.2 + b.2) % 256)
def putP (_ b : Px) : Px := b
def PxFine (p : Px) : Prop := 0 ≤ p.1 ∧ p.1 ≤ 255 ∧ 0 ≤ p.2 ∧ p.2 ≤ 255
def PicFine (p : FPic) : Prop := 1 ≤ p.w ∧ p.w ≤ 8 ∧ 1 ≤ p.h ∧ p.h ≤ 8 ∧ (p.p.length : Int) = p.w * p.h ∧ ∀ q ∈ p.p, PxFine q
theorem overP_fine {a b : Px} (ha : PxFine a) (hb : PxFine b) : PxFine (overP a b) := by
  have h := overA_bd a.2 b.2 ha.2.2 hb.2.2
  refine ⟨?_, ?_, ?_, ?_⟩
  · by_cases hc : overA a.2 b.2 = 0
    · unfold overP overV; unfold overA at hc; simp only; rw [if_pos hc]; omega
    · have := overV_bd a.1 a.2 b.1 b.2 ha.2.2 hb.2.2 hc
      have := ha.1; have := hb.1
      unfold overP; simp only; omega
  · by_cases hc : overA a.2 b.2 = 0
    · unfold overP overV; unfold overA at hc; simp only; rw [if_pos hc]; omega
    · have := overV_bd a.1 a.2 b.1 b.2 ha.2.2 hb.2.2 hc
      have := ha.2.1; have := hb.2.1
      unfold overP; simp only; omega
  · have := ha.2.2.1; unfold overP; simp only; omega
  · unfold overP; simp only; omega
theorem addP_fine (a b : Px) : PxFine (addP a b) := by
  unfold addP PxFine; simp only
  omega
/-- the pixel of q (its origin at x, y) over the row j, column i -/
def srcP (q : FPic) (x y : Int) (j i : Nat) : Px := q.p.getD (((j : Int) - y) * q.w + (i : Int) - x).toNat (0, 0)
/-- is row j, column i in the rect? -/
def onB (r : FRect) (j i : Nat) : Bool := hasB r (i : Int) (j : Int)
/-- a picture of which another one, from x, y on, changes pixels -/
def changeP (g : Px → Px → Px) (p q : FPic) (x y : Int) : FPic :=
  { p with p := updL p.w.toNat p.p (onB ⟨x, y, q.w, q.h⟩) fun j i => g (p.p.getD (j * p.w.toNat + i) (0, 0)) (srcP q x y j i) }
/-- an object laid on a picture -/
def layP (p : FPic) (o : FObj) : FPic :=
  { p with p := updL p.w.toNat p.p (fun j i => o.shown && (onB o.clip j i && onB ⟨o.x, o.y, o.pic.w, o.pic.h⟩ j i)) fun j i => overP (srcP o.pic o.x o.y j i) (p.p.getD (j * p.w.toNat + i) (0, 0)) }
/-- where the pixel lies that is over row j, column i -/
theorem src_lt {q : FPic} {x y : Int} {j i : Nat} (hq : PicFine q) (h : onB ⟨x, y, q.w, q.h⟩ j i = true) :
    0 ≤ ((j : Int) - y) * q.w + (i : Int) - x ∧ (((j : Int) - y) * q.w + (i : Int) - x) < q.p.length := by
  unfold onB hasB at h
  simp at h
  obtain ⟨h1, h2, h3, h4⟩ := h
  obtain ⟨q1, q2, q3, q4, q5, -⟩ := hq
  rw [q5]
  have a1 : 0 ≤ (j : Int) - y := by omega
  have a2 : (j : Int) - y ≤ q.h - 1 := by omega
  have b1 : 0 ≤ ((j : Int) - y) * q.w := Int.mul_nonneg a1 (by omega)
  have b2 : ((j : Int) - y) * q.w ≤ (q.h - 1) * q.w := Int.mul_le_mul_of_nonneg_right a2 (by omega)
  have e : (q.h - 1) * q.w = q.w * q.h - q.w := by rw [Int.sub_mul, Int.one_mul, Int.mul_comm]
  rw [e] at b2
  omega
theorem src_fine {q : FPic} {x y : Int} {j i : Nat} (hq : PicFine q) (h : onB ⟨x, y, q.w, q.h⟩ j i = true) : PxFine (srcP q x y j i) := by
  obtain ⟨h1, h2⟩ := src_lt hq h
  unfold srcP
  rw [List.getD_eq_getElem?_getD, List.getElem?_eq_getElem (by omega)]
  exact hq.2.2.2.2.2 _ (List.getElem_mem _)
end Fb
namespace Fb
open Go Go.Proofs Go.RowKit
def eqPx (a b c d : Int) : Bool := decide (a = c ∧ b = d)
def eqRect (a b c d a' b' c' d' : Int) : Bool := decide (a = a' ∧ b = b' ∧ c = c' ∧ d = d')
theorem underlying_px : Try.prog.underlying 42 = some (.struct (Try.prog.fieldsOf 42)) := by kernel_rfl
theorem underlying_rect : Try.prog.underlying 87 = some (.struct (Try.prog.fieldsOf 87)) := by kernel_rfl
theorem held_px : Try.prog.stoodInHeld 42 = false := by kernel_rfl
theorem held_rect : Try.prog.stoodInHeld 87 = false := by kernel_rfl
theorem equalIn_px (a b c d : Int) (w : World) : (Op.equalIn 10000 42 (.agg #[.int .i64 a, .int .i64 b]) (.agg #[.int .i64 c, .int .i64 d])).run Try.prog w = .ok (eqPx a b c d) w := by
  have u3 := Try.underlying3
  have a3 := Try.isAgg3
  have z3 := Try.sizeOf3
  rw [show (10000 : Nat) = 9999 + 1 from rfl, run_equalIn_agg w 9999 42 _ _ underlying_px held_px]
  simp only [Program.fieldsOf, Try.underlying42]
  go_simp
  unfold eqPx
  by_cases h1 : a = c <;> by_cases h2 : b = d <;> simp [h1, h2]
theorem eql_px (a b c d : Int) (w : World) : (binOp .eql 42 (.agg #[.int .i64 a, .int .i64 b]) (.agg #[.int .i64 c, .int .i64 d])).run Try.prog w = .ok (.bool (eqPx a b c d)) w := by
  rw [run_eql_struct, equalIn_px]; rfl
theorem neq_px (a b c d : Int) (w : World) : (binOp .neq 42 (.agg #[.int .i64 a, .int .i64 b]) (.agg #[.int .i64 c, .int .i64 d])).run Try.prog w = .ok (.bool (!eqPx a b c d)) w := by
  rw [run_neq_struct, equalIn_px]; rfl
theorem equalIn_rect (a b c d a' b' c' d' : Int) (w : World) : (Op.equalIn 10000 87 (.agg #[.int .i64 a, .int .i64 b, .int .i64 c, .int .i64 d]) (.agg #[.int .i64 a', .int .i64 b', .int .i64 c', .int .i64 d'])).run Try.prog w = .ok (eqRect a b c d a' b' c' d') w := by
  have u3 := Try.underlying3
  have a3 := Try.isAgg3
  have z3 := Try.sizeOf3
  rw [show (10000 : Nat) = 9999 + 1 from rfl, run_equalIn_agg w 9999 87 _ _ underlying_rect held_rect]
  simp only [Program.fieldsOf, Try.underlying87]
  go_simp
  unfold eqRect
  by_cases h1 : a = a' <;> by_cases h2 : b = b' <;> by_cases h3 : c = c' <;> by_cases h4 : d = d' <;> simp [h1, h2, h3, h4]
theorem eql_rect (a b c d a' b' c' d' : Int) (w : World) : (binOp .eql 87 (.agg #[.int .i64 a, .int .i64 b, .int .i64 c, .int .i64 d]) (.agg #[.int .i64 a', .int .i64 b', .int .i64 c', .int .i64 d'])).run Try.prog w = .ok (.bool (eqRect a b c d a' b' c' d')) w := by
  rw [run_eql_struct, equalIn_rect]; rfl
theorem neq_rect (a b c d a' b' c' d' : Int) (w : World) : (binOp .neq 87 (.agg #[.int .i64 a, .int .i64 b, .int .i64 c, .int .i64 d]) (.agg #[.int .i64 a', .int .i64 b', .int .i64 c', .int .i64 d'])).run Try.prog w = .ok (.bool (!eqRect a b c d a' b' c' d')) w := by
  rw [run_neq_struct, equalIn_rect]; rfl
end Fb
namespace Fb
open Go Go.Proofs Go.RowKit Go.Sort
def noOp : FOp := ⟨0, 0, 0, 0, 0, 0, ⟨0, 0, []⟩⟩
theorem opblk_cell {w : World} {g : Nat} {cur : Array Value} {T : TypeId} (h : w.heap[g]? = some (.cells cur T (0, 0))) (j : Nat) (u : Value) (hu : cur[j]? = some u) : w.cell? ⟨g, j, none⟩ = some u := by
  rw [Lib.cell_of_heap h]; exact hu
theorem opblk_free {w : World} {g : Nat} {cur : Array Value} {T : TypeId} (h : w.heap[g]? = some (.cells cur T (0, 0))) (j : Nat) : w.frozen? ⟨g, j, none⟩ = false := Lib.frozen_of_heap h j
theorem blk_keep {W W' : World} {g : Nat} {o : Go.Obj} (h : W.heap[g]? = some o) (hb : Below W.heap.size W W') : W'.heap[g]? = some o := by
  rw [hb.block g (Array.getElem?_eq_some_iff.1 h).1]; exact h
def OpBoxAt (g : Nat) (k i a b c d pw ph : Int) (A : Option Addr) (n cp : Nat) (W : World) : Prop := W.heap[g]? = some (.cells #[.int .i64 k, .int .i64 i, .int .i64 a, .int .i64 b, .int .i64 c, .int .i64 d, .int .i64 pw, .int .i64 ph, .slice A n cp] 51)
theorem OpBoxAt.cells {H : Nat} {k i a b c d pw ph : Int} {A : Option Addr} {n cp : Nat} {W : World} (h : OpBoxAt H k i a b c d pw ph A n cp W) :
    W.cell? ⟨H, 0, none⟩ = some (.int .i64 k) ∧ W.cell? ⟨H, 1, none⟩ = some (.int .i64 i) ∧ W.cell? ⟨H, 2, none⟩ = some (.int .i64 a) ∧ W.cell? ⟨H, 3, none⟩ = some (.int .i64 b) ∧ W.cell? ⟨H, 4, none⟩ = some (.int .i64 c) ∧ W.cell? ⟨H, 5, none⟩ = some (.int .i64 d) ∧ W.cell? ⟨H, 6, none⟩ = some (.int .i64 pw) ∧ W.cell? ⟨H, 7, none⟩ = some (.int .i64 ph) ∧ W.cell? ⟨H, 8, none⟩ = some (.slice A n cp) :=
  ⟨opblk_cell h 0 _ rfl, opblk_cell h 1 _ rfl, opblk_cell h 2 _ rfl, opblk_cell h 3 _ rfl, opblk_cell h 4 _ rfl, opblk_cell h 5 _ rfl, opblk_cell h 6 _ rfl, opblk_cell h 7 _ rfl, opblk_cell h 8 _ rfl⟩
end Fb
namespace Fb
open Go Go.Proofs Go.RowKit
def sameB (a : Nat) (f : Int) : Bool := decide ((a : Int) = f)
set_option maxRecDepth 100000 in
set_option maxHeartbeats 400000 in
theorem same_any (a : Nat) (f : Int) (w : World) (ha : a ≤ 100) :
    Calls Try.prog 18 #[errV a, .int .i64 f] w (Ret (.bool (sameB a f)) w) := by
  by_cases h0 : a = 0
  · subst h0
    rw [errV_zero]
    go_enter Try.func18, Try.ntmps18
    go_wp2
    go_ret
    exact ⟨ret_bool (by unfold sameB; rw [Bool.eq_iff_iff]; simp; omega), Below.refl _ _⟩
  · rw [errV_pos h0]
    have hta := assert_ok (a : Int)
    by_cases hf : 0 < f
    · go_enter Try.func18, Try.ntmps18
      go_wp2
      go_ret
      exact ⟨ret_bool (by unfold sameB; rw [Bool.eq_iff_iff]; simp), Below.refl _ _⟩
    · have hf' : f ≤ 0 := by omega
      go_enter Try.func18, Try.ntmps18
      go_wp2
      go_ret
      exact ⟨ret_bool (by unfold sameB; rw [Bool.eq_iff_iff]; simp; omega), Below.refl _ _⟩
set_option maxRecDepth 100000 in
set_option maxHeartbeats 400000 in
theorem number_any (a : Nat) (w : World) (ha : a ≤ 100) :
    Calls Try.prog 31 #[errV a] w (Ret (.int .i64 a) w) := by
  by_cases h0 : a = 0
  · subst h0
    rw [errV_zero]
    go_enter Try.func31, Try.ntmps31
    go_wp2
    go_ret
    exact ⟨rfl, Below.refl _ _⟩
  · rw [errV_pos h0]
    have hta := assert_ok (a : Int)
    go_enter Try.func31, Try.ntmps31
    go_wp2
    go_ret
    exact ⟨rfl, Below.refl _ _⟩
theorem sameB_self (a : Nat) : sameB a (a : Int) = true := by simp [sameB]
end Fb
namespace Fb
open Go Go.RowKit
/-- the slice's block is a row of type T -/
def Typed (w : World) (A : Option Addr) (n : Nat) (T : TypeId) : Prop := 0 < n → ∀ a, A = some a → ∃ cur fz, w.heap[a.block]? = some (.cells cur T fz)
theorem Typed.lt {w : World} {A : Option Addr} {n : Nat} {T : TypeId} (h : Typed w A n T) (hn : 0 < n) (a : Addr) (ha : A = some a) : a.block < w.heap.size := by
  obtain ⟨cur, fz, e⟩ := h hn a ha
  exact (Array.getElem?_eq_some_iff.1 e).1
theorem Typed.below {w w' : World} {A : Option Addr} {n : Nat} {T : TypeId} (h : Typed w A n T) (hb : Below w.heap.size w w') : Typed w' A n T := fun hn a ha => by
  obtain ⟨cur, fz, e⟩ := h hn a ha
  exact ⟨cur, fz, by rw [hb.block a.block (h.lt hn a ha)]; exact e⟩
theorem Typed.grown {w w' : World} {own : Option Nat} {A : Option Addr} {n : Nat} {T : TypeId} (h : Typed w A n T) (hg : w.grownBy w' own) (hne : 0 < n → ∀ a, A = some a → own ≠ some a.block) : Typed w' A n T := fun hn a ha => by
  obtain ⟨cur, fz, e⟩ := h hn a ha
  exact ⟨cur, fz, by rw [hg.block a.block (h.lt hn a ha) (fun e => hne hn a ha e.symm)]; exact e⟩
theorem Typed.own {w : World} {base e size n c : Nat} {A : Option Addr} {xs : List Value} (h : w.ownsRow base e size (.slice A n c) n xs) : Typed w A n e := fun hn a ha => by
  rcases h.2 with ⟨_, h0⟩ | ⟨g, cap, cur, hv, hg, hh, r⟩
  · omega
  · simp only [Value.slice.injEq] at hv
    obtain ⟨h1, -, -⟩ := hv
    rw [h1] at ha
    injection ha with ha
    subst ha
    exact ⟨cur, (0, 0), hh⟩
/-- a row of another type than the builder's stays while the builder is written -/
theorem Typed.others {w w' : World} {A : Option Addr} {n b : Nat} {T e TB : TypeId} {cb : Array Value} {fb : Nat × Nat} (h : Typed w A n T) (ho : Lib.OthersKept e (some b) w w') (hb : w.heap[b]? = some (.cells cb TB fb)) (h1 : T ≠ e) (h2 : T ≠ TB) : Typed w' A n T := fun hn a ha => by
  obtain ⟨cur, fz, e⟩ := h hn a ha
  refine ⟨cur, fz, ho _ _ e ?_ ?_⟩
  · intro e2; injection e2 with e2
    rw [e2, hb] at e
    injection e with e; injection e with _ e3 _
    exact h2 e3.symm
  · intro c f e2; injection e2 with _ e3 _; exact h1 e3
theorem Row.others {w w' : World} {A : Option Addr} {n b size : Nat} {cs : List Value} {T e TB : TypeId} {cb : Array Value} {fb : Nat × Nat} (h : Row w A n size cs) (ht : Typed w A n T) (ho : Lib.OthersKept e (some b) w w') (hb : w.heap[b]? = some (.cells cb TB fb)) (h1 : T ≠ e) (h2 : T ≠ TB) : Row w' A n size cs := by
  refine ⟨h.1, fun hn => ?_⟩
  obtain ⟨g, off, rfl, hg, hc⟩ := h.2 hn
  obtain ⟨cur, fz, e3⟩ := ht hn _ rfl
  have e4 := ho g _ e3 (by
    intro e2; injection e2 with e2
    rw [show ((⟨g, off, none⟩ : Addr).block) = g from rfl, e2, hb] at e3
    injection e3 with e3; injection e3 with _ e3 _
    exact h2 e3.symm) (by intro c f e2; injection e2 with _ e3 _; exact h1 e3)
  refine ⟨g, off, rfl, (Array.getElem?_eq_some_iff.1 e4).1, fun j u hu => ?_⟩
  rw [World.cell?_of_block (w := w) (w' := w') (by rw [e4]; exact e3.symm)]
  exact hc j u hu
/-- each element's own slice reads as before, and lies in another block than 'own' -/
def RowsHeld {α : Type} (size : Nat) (T : TypeId) (cs : FAt α → List Value) (w : World) (own : Option Nat) (rs : List (FAt α)) : Prop :=
  ∀ q ∈ rs, Row w q.A q.n size (cs q) ∧ Typed w q.A q.n T ∧ (0 < q.n → ∀ a, q.A = some a → own ≠ some a.block)
theorem RowsHeld.nil {α : Type} {size : Nat} {T : TypeId} {cs : FAt α → List Value} {w : World} {own : Option Nat} : RowsHeld size T cs w own [] := fun q h => by cases h
theorem RowsHeld.below {α : Type} {size : Nat} {T : TypeId} {cs : FAt α → List Value} {w w' : World} {own : Option Nat} {rs : List (FAt α)} (h : RowsHeld size T cs w own rs) (hb : Below w.heap.size w w') : RowsHeld size T cs w' own rs :=
  fun q hq => ⟨(h q hq).1.below hb, (h q hq).2.1.below hb, (h q hq).2.2⟩
theorem RowsHeld.grown {α : Type} {size : Nat} {T : TypeId} {cs : FAt α → List Value} {w w' : World} {own : Option Nat} {g : Nat} {rs : List (FAt α)} (h : RowsHeld size T cs w own rs) (hg : w.grownBy w' own) (hat : own = some g ∨ g = w.heap.size) : RowsHeld size T cs w' (some g) rs :=
  fun q hq => ⟨(h q hq).1.grown hg (h q hq).2.2, (h q hq).2.1.grown hg (h q hq).2.2, fun hn a ha => by
    rcases hat with e | e
    · rw [← e]; exact (h q hq).2.2 hn a ha
    · intro e2; injection e2 with e2
      have := (h q hq).2.1.lt hn a ha
      omega⟩
theorem RowsHeld.snoc {α : Type} {size : Nat} {T : TypeId} {cs : FAt α → List Value} {w : World} {own : Option Nat} {rs : List (FAt α)} {r : FAt α} (h : RowsHeld size T cs w own rs) (hr : Row w r.A r.n size (cs r)) (ht : Typed w r.A r.n T) (hne : 0 < r.n → ∀ a, r.A = some a → own ≠ some a.block) : RowsHeld size T cs w own (rs ++ [r]) := by
  intro q hq
  rcases List.mem_append.1 hq with hq | hq
  · exact h q hq
  · simp only [List.mem_singleton] at hq
    subst hq
    exact ⟨hr, ht, hne⟩
end Fb
namespace Fb
open Go Go.Proofs Go.RowKit Go.Sort
theorem cell_all {w : World} {p : Addr} {v : Value} (hb : p.block < w.heap.size) (h : w.cell? p = some v) (d : Nat) (os : Array Go.Obj) : (grow (redrawn w d) os).cell? p = some v :=
  ((below_regrown w d os).cell hb).trans h
theorem Pixs.all {w : World} {A : Option Addr} {n : Nat} {l : List Px} (h : Pixs w A n l) (d : Nat) (os : Array Go.Obj) : Pixs (grow (redrawn w d) os) A n l := h.below (below_regrown w d os)
set_option maxRecDepth 100000 in
set_option maxHeartbeats 400000 in
theorem lightpic_any (r : FAt FPic) (w : World) :
    Calls Try.prog 35 #[.agg #[.int .i64 r.x.w, .int .i64 r.x.h, .slice r.A r.n r.c]] w (Ret (.bool (decide (r.n ≤ 80))) w) := by
  go_enter Try.func35, Try.ntmps35
  go_wp2
  go_ret
  refine ⟨ret_bool ?_, (Below.refl _ _).alloc (Nat.le_refl _) _⟩
  rw [Bool.eq_iff_iff]; simp; try omega
theorem all_stepG {α : Type} {f : α → Bool} {l : List α} {k : Nat} (h : k < l.length) (ha : (l.take k).all f = true) (hc : f l[k] = true) : (l.take (k + 1)).all f = true := by
  rw [List.take_succ_eq_append_getElem h, List.all_append]; simp [ha, hc]
theorem all_badG {α : Type} {f : α → Bool} {l : List α} {k : Nat} (h : k < l.length) (hc : f l[k] = false) : l.all f = false := by
  rw [List.all_eq_false]; exact ⟨l[k], List.getElem_mem h, by simp [hc]⟩
end Fb
