/- Slices of ops that a law builds by append, and the law's own test of plain ops. Conditions: those of each lemma. -/
import Derived.Test.YtgkemeclpidmcaaMachAll
import Derived.Test.YtgkemeclpidmcaaReelLight
import Derived.Test.YtgkemeclpidmcaaSameWalk
set_option linter.unusedSimpArgs false
set_option linter.unusedVariables false
namespace Fb
open Go Go.Proofs Go.RowKit Go.Sort
attribute [local go_sem ↓] Go.wp_at_zero Go.wp_at_succ
theorem Frames.belowT {w w' : World} {A : Option Addr} {n : Nat} {rs : List (FAt FFrame)} (h : Frames w A n rs) (hb : Below w.heap.size w w') : Frames w' A n rs := ⟨h.1, h.2.1.below hb, fun r hr => (h.2.2 r hr).below hb⟩
theorem play_fine (l : List FOp) (fuel : Int) : (playP l fuel).1.length ≤ 40 ∧ ∀ f ∈ (playP l fuel).1, PicFine f.pic := by
  unfold playP
  by_cases hf : bookFault l = 0
  · rw [if_neg (by omega)]
    have h := runM_ok (book_fine hf) (fuelN fuel) m0 (m0_ok (book_fine hf))
    unfold endM
    split
    · exact ⟨by simp, fun f h => by simp at h⟩
    · split
      · exact ⟨by simp, fun f h => by simp at h⟩
      · exact ⟨h.few, fun f hf => (h.pics f hf).1⟩
  · rw [if_pos hf]
    exact ⟨by simp, fun f h => by simp at h⟩
theorem frames_small {w : World} {A : Option Addr} {n : Nat} {rs : List (FAt FFrame)} {X : List FFrame} (h : Frames w A n rs) (hd : frD rs = X) (hl : X.length ≤ 40) (hp : ∀ f ∈ X, PicFine f.pic) : n ≤ 1000000 ∧ Small rs := by
  subst hd
  unfold frD at hl
  rw [List.length_map, h.1] at hl
  refine ⟨by omega, fun r hr => ?_⟩
  have h1 := h.2.2 r hr
  have h2 := pic_len (hp r.x (List.mem_map.2 ⟨r, hr, rfl⟩))
  have := h1.1
  omega
/-- a slice of one's own that holds the ops -/
structure OwnL (B : Nat) (w : World) (A : Option Addr) (n c : Nat) (rs : List (FAt FOp)) : Prop where
  own : w.ownsRow B 51 9 (.slice A n c) n (rs.flatMap opCells)
  len : rs.length = n
  pix : ∀ r ∈ rs, Pixs w r.A r.n r.x.pic.p
  low : B ≤ w.heap.size
theorem OwnL.ops {B : Nat} {w : World} {A : Option Addr} {n c : Nat} {rs : List (FAt FOp)} (h : OwnL B w A n c rs) : Ops w A n rs := ⟨h.len, Row.of_own h.own, h.pix⟩
theorem OwnL.below {B : Nat} {w w' : World} {A : Option Addr} {n c : Nat} {rs : List (FAt FOp)} (h : OwnL B w A n c rs) (hb : Below w.heap.size w w') : OwnL B w' A n c rs :=
  ⟨own_keep h.own hb, h.len, fun r hr => (h.pix r hr).below hb, Nat.le_trans h.low hb.size⟩
theorem OwnL.few {B : Nat} {w : World} {A : Option Addr} {n c : Nat} {rs : List (FAt FOp)} (h : OwnL B w A n c rs) : n ≤ c ∧ c ≤ maxLen := by
  obtain ⟨A0, c0, e, -, h1, h2⟩ := own_slice h.own
  injection e with _ _ e
  subst e
  exact ⟨h1, h2⟩
theorem OwnL.nil (w : World) : OwnL w.heap.size w none 0 0 [] := ⟨World.ownsRow_nil _ _ _ _, rfl, fun r hr => (by cases hr), Nat.le_refl _⟩
/-- a literal -/
theorem OwnL.lit (w : World) (os : List FOp) (cs : Array Value) (hc : cs.toList = (os.map bareR).flatMap opCells) (hn : os.length ≤ 1000) (hp : ∀ o ∈ os, o.pic.p = []) : OwnL w.heap.size (w.alloc (.cells cs 51)) (some ⟨w.heap.size, 0, none⟩) os.length os.length (os.map bareR) := by
  have hs : cs.size = os.length * 9 := by
    have := congrArg List.length hc
    rw [flat_len (enc := opCells) (size := 9) (fun _ => rfl)] at this
    simpa using this
  refine ⟨?_, by simp, fun r hr => ?_, by simp⟩
  · have := World.ownsRow_lit (base := w.heap.size) (e := 51) (size := 9) w cs os.length (Nat.le_refl _) (by unfold maxLen; omega) hs
    rw [hc] at this
    exact this
  · obtain ⟨o, ho, rfl⟩ := List.mem_map.1 hr
    show Pixs _ none 0 o.pic.p
    rw [hp o ho]
    exact pixs_none _ _
theorem OwnL.lower {B B' : Nat} {w : World} {A : Option Addr} {n c : Nat} {rs : List (FAt FOp)} (h : OwnL B w A n c rs) (hb : B' ≤ B) : OwnL B' w A n c rs := ⟨own_lowerM h.own hb, h.len, h.pix, Nat.le_trans hb h.low⟩
/-- the ops' pictures lie apart from a slice's own block -/
def Apart (w : World) (own : Option Nat) (rs : List (FAt FOp)) : Prop := ∀ r ∈ rs, 0 < r.n → ∀ a, r.A = some a → own ≠ some a.block
theorem run_append_none (w : World) (base : Nat) (t ty e : TypeId) (i : TypeInfo) (size : Nat) (ht : Try.prog.underlying t = some (.slice e)) (hi : Try.prog.info? e = some i)
    (v : Value) (n c : Nat) (xs : List Value) (hown : w.ownsRow base e size v n xs) : (Builtin.append_ #[t, t] ty #[v, .slice none 0 c]).run Try.prog w = .ok v w := by
  rcases hown.2 with ⟨rfl, rfl⟩ | ⟨g, cap, cur, rfl, _, _, hnc, _⟩
  · simp [Builtin.append_, run_underlying ht, Go.sizeOf, typeInfo, hi, Builtin.lenOf, Builtin.firstCells]
  · simp [Builtin.append_, run_underlying ht, Go.sizeOf, typeInfo, hi, Builtin.lenOf, Builtin.firstCells, hnc, storeCells]
set_option maxRecDepth 100000 in
/-- the run of an append of ops to a slice of one's own -/
theorem run_append_ops (w : World) (ty : TypeId) (B : Nat) (A : Option Addr) (n c : Nat) (rs ss : List (FAt FOp)) (hown : OwnL B w A n c rs) (S : Option Addr) (m k : Nat) (hsrc : Ops w S m ss) (hsmall : n + m ≤ 1000000) (hap : Apart w (Value.slice A n c).ownBlock rs) (hap2 : Apart w (Value.slice A n c).ownBlock ss) :
    ∃ A' c' w', (Builtin.append_ #[22, 22] ty #[.slice A n c, .slice S m k]).run Try.prog w = .ok (.slice A' (n + m) c') w' ∧ OwnL B w' A' (n + m) c' (rs ++ ss) ∧ w.grownBy w' (Value.slice A n c).ownBlock ∧
      ((Value.slice A' (n + m) c').ownBlock = (Value.slice A n c).ownBlock ∨ (Value.slice A' (n + m) c').ownBlock = some w.heap.size) := by
  obtain ⟨i0, hi, hz0, hz1, hz2⟩ := info_parts info_opM
  cases S with
  | none =>
    have h0 : m = 0 := by
      rcases Nat.eq_zero_or_pos m with h0 | h0
      · exact h0
      · obtain ⟨_, _, e, _⟩ := hsrc.2.1.2 h0; cases e
    subst h0
    have hss : ss = [] := List.eq_nil_of_length_eq_zero hsrc.1
    subst hss
    exact ⟨A, c, w, run_append_none w B 22 ty 51 i0 9 Try.underlying22 hi _ n k _ hown.own, by rw [List.append_nil]; exact hown, World.grownBy.refl _ _, Or.inl rfl⟩
  | some a =>
    have hnews : ∀ j u, (ss.flatMap opCells)[j]? = some u → w.cell? (a.add j) = some u := by
      intro j u hu
      have hj := (List.getElem?_eq_some_iff.1 hu).1
      rw [op_lenM, hsrc.1] at hj
      obtain ⟨b, off, e, hb, hc⟩ := hsrc.2.1.2 (by omega)
      injection e with e
      subst e
      rw [show (⟨b, off, none⟩ : Addr).add j = ⟨b, off + j, none⟩ from by
        unfold Addr.add
        by_cases h : j = 0
        · subst h; simp
        · rw [if_neg h]]
      exact hc j u hu
    obtain ⟨v', w', hrun, ho, hg, -, hvo⟩ := run_append_own_at (P := Try.prog) w B 22 ty 51 i0 _ 9 88 Try.underlying22 hi hz0 hz1 hz2 rfl (by decide) (.slice A n c) n (rs.flatMap opCells) hown.own a m k (ss.flatMap opCells) (by rw [op_lenM, hsrc.1]) hnews (fun u hu => opCells_oneM hu) (by unfold maxLen; omega) (by omega) hown.low
    obtain ⟨A', c', rfl, -, -⟩ := own_slice ho
    refine ⟨A', c', w', hrun, ⟨by rw [List.flatMap_append]; exact ho, by rw [List.length_append, hown.len, hsrc.1], fun r hr => ?_, Nat.le_trans hown.low hg.size⟩, hg, hvo⟩
    rcases List.mem_append.1 hr with hr | hr
    · exact ⟨(hown.pix r hr).1, (hown.pix r hr).2.grown hg (hap r hr)⟩
    · exact ⟨(hsrc.2.2 r hr).1, (hsrc.2.2 r hr).2.grown hg (hap2 r hr)⟩
theorem wpList_append_ops {ops : Array Oper} {rest : List Oper} {o : Oper} {a : Act} {Q : Exit → Act → World → Prop} (w : World) (hgd : o.guard = none) (s x : Operand) (ho : o.op = .call { callee := .builtin .append, args := #[s, x], argTypes := #[22, 22] })
    (B : Nat) (A : Option Addr) (n c : Nat) (rs ss : List (FAt FOp)) (hs : a.eval s = .slice A n c) (hown : OwnL B w A n c rs) (S : Option Addr) (m k : Nat) (hx : a.eval x = .slice S m k) (hsrc : Ops w S m ss) (hsmall : n + m ≤ 1000000) (hap : Apart w (Value.slice A n c).ownBlock rs) (hap2 : Apart w (Value.slice A n c).ownBlock ss)
    (h : ∀ A' c' w', OwnL B w' A' (n + m) c' (rs ++ ss) → w.grownBy w' (Value.slice A n c).ownBlock → ((Value.slice A' (n + m) c').ownBlock = (Value.slice A n c).ownBlock ∨ (Value.slice A' (n + m) c').ownBlock = some w.heap.size) → wpList Try.prog ops Q rest (a.put o.dst (.slice A' (n + m) c')) w') : wpList Try.prog ops Q (o :: rest) a w := by
  refine wpList_plain hgd fun K hK => ?_
  obtain ⟨A', c', w', hr, h2, h3, h4⟩ := run_append_ops w o.type B A n c rs ss hown S m k hsrc hsmall hap hap2
  unfold Oper.wp execOp
  simp only [ho, resolve, invoke, builtin, Sem.run_bind, Sem.run_pure, Result.andThen_ok, List.map_toArray, List.map_cons, List.map_nil, hs, hx, hr]
  exact hK _ _ (h A' c' w' h2 h3 h4)
/-- ops that lie below B are apart from what lies above -/
theorem apart_low {w0 w : World} {B : Nat} {A : Option Addr} {n c : Nat} {rs : List (FAt FOp)} {xs : List Value} (hpix : ∀ r ∈ rs, Pixs w0 r.A r.n r.x.pic.p) (hB : w0.heap.size ≤ B) (hown : w.ownsRow B 51 9 (.slice A n c) n xs) : Apart w (Value.slice A n c).ownBlock rs := fun r hr hn a ha e => by
  have h1 := row_block (hpix r hr).2 hn ha
  have h2 := (hown.lt _ e).1
  omega
theorem apart_bare {w : World} {own : Option Nat} {os : List FOp} : Apart w own (os.map bareR) := fun r hr hn a ha => by
  obtain ⟨o, -, rfl⟩ := List.mem_map.1 hr
  cases ha
theorem apart_append {w : World} {own : Option Nat} {rs ss : List (FAt FOp)} (h1 : Apart w own rs) (h2 : Apart w own ss) : Apart w own (rs ++ ss) := fun r hr => by
  rcases List.mem_append.1 hr with hr | hr
  · exact h1 r hr
  · exact h2 r hr
theorem Apart.to {w w' : World} {own : Option Nat} {rs : List (FAt FOp)} (h : Apart w own rs) : Apart w' own rs := h
theorem OwnL.after {w0 w w' : World} {B : Nat} {A : Option Addr} {n c : Nat} {rs : List (FAt FOp)} (h : Below w0.heap.size w0 w) (hown : OwnL B w A n c rs) (hB : w0.heap.size ≤ B) (hg : w.grownBy w' (Value.slice A n c).ownBlock) : Below w0.heap.size w0 w' :=
  below_own h hg h.size (fun b e => Nat.le_trans hB (hown.own.lt b e).1)
theorem same_selfM (pw ph : Int) (l : List Px) (A B : Option Addr) (n m c d : Nat) (w : World) (ha : Pixs w A n l) (hb : Pixs w B m l) (hn : n ≤ 1000000) :
    Calls Try.prog 33 #[.agg #[.int .i64 pw, .int .i64 ph, .slice A n c], .agg #[.int .i64 pw, .int .i64 ph, .slice B m d]] w (Ret (.bool true) w) := by
  obtain rfl := ha.1
  obtain rfl := hb.1
  have := rsame_pic_any ⟨⟨pw, ph, l⟩, A, l.length, c⟩ ⟨⟨pw, ph, l⟩, B, l.length, d⟩ w ha hb hn hn
  rw [show samePic (⟨pw, ph, l⟩ : FPic) ⟨pw, ph, l⟩ = true from samePic_iff.2 rfl] at this
  exact this
theorem OwnL.keep {w w' : World} {B : Nat} {A : Option Addr} {n c : Nat} {rs : List (FAt FOp)} {row : Option Nat} (h : OwnL B w A n c rs) (hg : w.grownBy w' row) (hne : ∀ b, (Value.slice A n c).ownBlock = some b → row ≠ some b) (hap : Apart w row rs) : OwnL B w' A n c rs := by
  refine ⟨h.own.kept hg ?_, h.len, fun r hr => ⟨(h.pix r hr).1, (h.pix r hr).2.grown hg (hap r hr)⟩, Nat.le_trans h.low hg.size⟩
  cases hb : (Value.slice A n c).ownBlock with
  | none => exact Or.inl rfl
  | some b => exact Or.inr (fun e => hne b hb e.symm)
/-- a block that came later is another one -/
theorem OwnL.ne {w : World} {B H : Nat} {A : Option Addr} {n c : Nat} {rs : List (FAt FOp)} {row : Option Nat} (h : OwnL B w A n c rs) (hr : row = none ∨ row = some H) (hH : w.heap.size ≤ H) : ∀ b, (Value.slice A n c).ownBlock = some b → row ≠ some b := fun b hb e => by
  have := (h.own.lt b hb).2
  rcases hr with hr | hr
  · rw [hr] at e; cases e
  · rw [hr] at e; injection e with e; omega
theorem apart_row {w0 w : World} {H : Nat} {row : Option Nat} {rs : List (FAt FOp)} (hpix : ∀ r ∈ rs, Pixs w0 r.A r.n r.x.pic.p) (hr : row = none ∨ row = some H) (hH : w0.heap.size ≤ H) : Apart w row rs := fun r hr2 hn a ha e => by
  have h1 := row_block (hpix r hr2).2 hn ha
  rcases hr with hr | hr
  · rw [hr] at e; cases e
  · rw [hr] at e; injection e with e; omega
/-- append to nil -/
theorem wpList_append_nil {ops : Array Oper} {rest : List Oper} {o : Oper} {a : Act} {Q : Exit → Act → World → Prop} (w : World) (hgd : o.guard = none) (s x : Operand) (ho : o.op = .call { callee := .builtin .append, args := #[s, x], argTypes := #[22, 22] })
    (B : Nat) (ss : List (FAt FOp)) (hs : a.eval s = .slice none 0 0) (hB : B ≤ w.heap.size) (S : Option Addr) (m k : Nat) (hx : a.eval x = .slice S m k) (hsrc : Ops w S m ss) (hsmall : m ≤ 1000000)
    (h : ∀ A' c' w', OwnL B w' A' m c' ss → Below w.heap.size w w' → ((Value.slice A' m c').ownBlock = none ∨ (Value.slice A' m c').ownBlock = some w.heap.size) → wpList Try.prog ops Q rest (a.put o.dst (.slice A' m c')) w') : wpList Try.prog ops Q (o :: rest) a w := by
  refine wpList_append_ops w hgd s x ho B none 0 0 [] ss hs ⟨World.ownsRow_nil _ _ _ _, rfl, fun r hr => (by cases hr), hB⟩ S m k hx hsrc (by omega) (fun r hr => by cases hr) (fun r _ _ a _ e => by cases e) fun A' c' w' h1 h2 h3 => ?_
  rw [Nat.zero_add] at h1 h3 ⊢
  exact h A' c' w' h1 (below_gb h2) h3
/-- frames, one by one -/
theorem Frames.openT {w : World} {A : Option Addr} {n : Nat} {rs : List (FAt FFrame)} (h : Frames w A n rs) (hn : 0 < n) : ∃ b off, A = some ⟨b, off, none⟩ ∧ b < w.heap.size ∧ ∀ k x, (frD rs)[k]? = some x → ∃ A n c, Pixs w A n x.pic.p ∧
    w.cell? ⟨b, off + k * 4, none⟩ = some (.int .i64 x.pic.w) ∧ w.cell? ⟨b, off + k * 4 + 1, none⟩ = some (.int .i64 x.pic.h) ∧ w.cell? ⟨b, off + k * 4 + 2, none⟩ = some (.slice A n c) ∧ w.cell? ⟨b, off + k * 4 + 3, none⟩ = some (.int .i64 x.delay) := by
  obtain ⟨b, off, e, hb, hc⟩ := h.2.1.2 hn
  refine ⟨b, off, e, hb, fun k x hx => ?_⟩
  unfold frD at hx
  rw [List.getElem?_map] at hx
  cases hr : rs[k]? with
  | none => rw [hr] at hx; cases hx
  | some r =>
    rw [hr] at hx
    obtain rfl := Option.some.inj hx
    have hat := fun j hj => flat_at (enc := frCells) (size := 4) (fun _ => rfl) rs k j r hr hj
    have g := fun j u hj (hu : (frCells r)[j]? = some u) => hc (k * 4 + j) u ((hat j hj).trans hu)
    refine ⟨r.A, r.n, r.c, h.2.2 r (List.mem_of_getElem? hr), ?_, ?_, ?_, ?_⟩
    · have := g 0 _ (by omega) rfl; rw [Nat.add_zero] at this; exact this
    · rw [Nat.add_assoc]; exact g 1 _ (by omega) rfl
    · rw [Nat.add_assoc]; exact g 2 _ (by omega) rfl
    · rw [Nat.add_assoc]; exact g 3 _ (by omega) rfl
theorem at_end0 {F : List FFrame} {x y : FFrame} : (F ++ [x, y])[F.length]? = some x := by simp
theorem at_end1 {F : List FFrame} {x y : FFrame} : (F ++ [x, y])[F.length + 1]? = some y := by simp
/-! ## plain -/
def plainB (l : List FOp) : Bool := l.all fun o => !(decide (o.kind = 12) || decide (o.kind = 13) || decide (o.kind = 1) || decide (o.kind = 16))
theorem plainB_iff {l : List FOp} : plainB l = true ↔ ∀ o ∈ l, plainK o.kind ∧ o.kind ≠ 1 := by
  unfold plainB plainK
  rw [List.all_eq_true]
  refine ⟨fun h o ho => ?_, fun h o ho => ?_⟩
  · have := h o ho
    simp at this
    omega
  · have := h o ho
    simp
    omega
set_option maxRecDepth 100000 in
set_option maxHeartbeats 4000000 in
theorem mplain_any (A : Option Addr) (n c : Nat) (rs : List (FAt FOp)) (w : World) (h : Ops w A n rs) (hn : n ≤ 1000000) :
    Calls Try.prog 32 #[.slice A n c] w (Ret (.bool (plainB (datO rs))) w) := by
  have hlen := h.1
  obtain ⟨V, hV⟩ : ∃ V, plainB (datO rs) = V := ⟨_, rfl⟩
  rw [hV]
  have HV := hid (show V = plainB ((datO rs).drop 0) by rw [← hV]; rfl)
  by_cases h0 : n = 0
  · subst h0
    have hrs : rs = [] := List.eq_nil_of_length_eq_zero hlen
    subst hrs
    have hvt : V = true := HV.out
    subst hvt
    clear h hV HV
    go_enter Try.func32, Try.ntmps32
    go_wp2_with fail
    go_loopw [3] (fun iv wr => iv = .int .i64 0 ∧ Hid (Below w.heap.size w wr)) (fun _ _ => 0)
    case atStart => exact ⟨rfl, hid (Below.refl _ _)⟩
    case round =>
      obtain ⟨rfl, HB⟩ := hrel
      go_wp2_with fail
      go_ret
      exact ⟨rfl, HB.out⟩
  obtain ⟨b, off, rfl, hb, hat⟩ := Ops.open_ h (by omega)
  have HA := hid hat
  clear h hat hV
  go_enter Try.func32, Try.ntmps32
  go_wp2_with fail
  go_loopw [3] (fun iv wr => ∃ k : Nat, k ≤ n ∧ iv = .int .i64 k ∧ Hid (V = plainB ((datO rs).drop k)) ∧ Hid (Below w.heap.size w wr)) (fun iv _ => n - (intOf iv).toNat)
  case atStart => exact ⟨0, by omega, rfl, HV, hid (Below.refl _ _)⟩
  case round =>
    obtain ⟨k, hk, rfl, HF, HB⟩ := hrel
    clear HV
    by_cases hlt : k < n
    · have hkr : k < rs.length := by omega
      have hc := (OpCells.below (HA.out k hkr) HB.out hb).1
      have hdr := HF.out
      rw [datO_drop hkr] at hdr
      obtain ⟨kk, hkk⟩ : ∃ kk, rs[k].x.kind = kk := ⟨_, rfl⟩
      have i1 : (0 : Int) ≤ (k : Int) := by omega
      have i2 : (k : Int) < (n : Int) := by omega
      have e1 : IntKind.i64.wrap ((k : Int) + 1) = (k : Int) + 1 := IntWalk.i64_in _ (by omega)
      have hq : V = (!(decide (kk = 12) || decide (kk = 13) || decide (kk = 1) || decide (kk = 16)) && plainB ((datO rs).drop (k + 1))) := by
        rw [hdr, ← hkk]; rfl
      rw [hkk] at hc
      have HQ := hid hq
      clear hdr hq HF
      by_cases hbad : kk = 12 ∨ kk = 13 ∨ kk = 1 ∨ kk = 16
      · have hvf : V = false := by
          rw [HQ.out]
          rcases hbad with h | h | h | h <;> simp [h]
        subst hvf
        clear HQ
        rcases hbad with rfl | rfl | rfl | rfl
        all_goals (go_wp2_with fail)
        all_goals go_ret
        all_goals exact ⟨rfl, HB.out⟩
      · have b1 : (kk == 12) = false := by simp; omega
        have b2 : (kk == 13) = false := by simp; omega
        have b3 : (kk == 1) = false := by simp; omega
        have b4 : (kk == 16) = false := by simp; omega
        have HN := hid (show V = plainB ((datO rs).drop (k + 1)) by
          rw [HQ.out]
          have c1 : kk ≠ 12 := by omega
          have c2 : kk ≠ 13 := by omega
          have c3 : kk ≠ 1 := by omega
          have c4 : kk ≠ 16 := by omega
          simp [c1, c2, c3, c4])
        clear HQ
        go_wp2_with fail
        go_roundw
        case rel => exact ⟨k + 1, by omega, by go_num, HN, HB⟩
        case measure => simp [intOf]; omega
    · have hke : k = n := by omega
      subst hke
      have hvt : V = true := by rw [HF.out, List.drop_of_length_le (by rw [datO_len, hlen]; exact Nat.le_refl _)]; rfl
      subst hvt
      clear HF
      go_wp2_with fail
      go_ret
      exact ⟨rfl, HB.out⟩
end Fb
