/- ref.Machine.Step: one op is done. Conditions: the reference's machine lies in memory as it may be. Printed by mkrefstep.py. -/
import Derived.Test.YtgkemeclpidmcaaRefMem
import Derived.Test.YtgkemeclpidmcaaRObjsA
import Derived.Test.YtgkemeclpidmcaaREndOf
set_option linter.unusedSimpArgs false
set_option linter.unusedVariables false
namespace Fb
open Go Go.Proofs Go.RowKit Go.Sort
attribute [local go_sem ↓] Go.wp_at_zero Go.wp_at_succ
theorem do_small7 (l : List FObj) (x : FOp) : (doP l x).2 ≤ 7 := by
  by_cases h : (doP l x).2 = 0
  · omega
  · rw [(do_err h).1]; omega
theorem run_append_noneR (w : World) (base : Nat) (t ty e : TypeId) (i : TypeInfo) (size : Nat) (ht : Try.prog.underlying t = some (.slice e)) (hi : Try.prog.info? e = some i)
    (v : Value) (n c : Nat) (xs : List Value) (hown : w.ownsRow base e size v n xs) : (Builtin.append_ #[t, t] ty #[v, .slice none 0 c]).run Try.prog w = .ok v w := by
  rcases hown.2 with ⟨rfl, rfl⟩ | ⟨g, cap, cur, rfl, _, _, hnc, _⟩
  · simp [Builtin.append_, run_underlying ht, Go.sizeOf, typeInfo, hi, Builtin.lenOf, Builtin.firstCells]
  · simp [Builtin.append_, run_underlying ht, Go.sizeOf, typeInfo, hi, Builtin.lenOf, Builtin.firstCells, hnc, storeCells]
set_option maxRecDepth 100000 in
/-- the run of an append of a row to a slice of one's own -/
theorem run_append_row (w : World) (t ty e : TypeId) (i0 : TypeInfo) (z : Value) (size bytes : Nat) (ht : Try.prog.underlying t = some (.slice e)) (hi : Try.prog.info? e = some i0) (hz0 : i0.zero = some z) (hz1 : i0.size = size) (hz2 : i0.bytes = bytes) (hzs : z.cells.size = size) (hsz : 0 < size)
    (B : Nat) (A : Option Addr) (n c : Nat) (xs : List Value) (hown : w.ownsRow B e size (.slice A n c) n xs) (S : Option Addr) (m k : Nat) (ys : List Value) (hsrc : Row w S m size ys) (hone : ∀ u ∈ ys, u.oneCell' = true) (hsmall : n + m ≤ 100000) (hby : bytes ≤ 1000) (hB : B ≤ w.heap.size) :
    ∃ A' c' w', (Builtin.append_ #[t, t] ty #[.slice A n c, .slice S m k]).run Try.prog w = .ok (.slice A' (n + m) c') w' ∧ w'.ownsRow B e size (.slice A' (n + m) c') (n + m) (xs ++ ys) ∧ w.grownBy w' (Value.slice A n c).ownBlock ∧
      ((Value.slice A' (n + m) c').ownBlock = (Value.slice A n c).ownBlock ∨ (Value.slice A' (n + m) c').ownBlock = some w.heap.size) := by
  cases S with
  | none =>
    have h0 : m = 0 := by
      rcases Nat.eq_zero_or_pos m with h0 | h0
      · exact h0
      · obtain ⟨_, _, e, _⟩ := hsrc.2 h0; cases e
    subst h0
    have hys : ys = [] := List.eq_nil_of_length_eq_zero (by rw [hsrc.1, Nat.zero_mul])
    subst hys
    exact ⟨A, c, w, run_append_noneR w B t ty e i0 size ht hi _ n k _ hown, by rw [List.append_nil]; exact hown, World.grownBy.refl _ _, Or.inl rfl⟩
  | some a =>
    have hnews : ∀ j u, ys[j]? = some u → w.cell? (a.add j) = some u := by
      intro j u hu
      have hj := (List.getElem?_eq_some_iff.1 hu).1
      rw [hsrc.1] at hj
      have hm : 0 < m := by
        rcases Nat.eq_zero_or_pos m with h0 | h0
        · rw [h0, Nat.zero_mul] at hj; omega
        · exact h0
      obtain ⟨b, off, e, hb, hc⟩ := hsrc.2 hm
      injection e with e
      subst e
      rw [show (⟨b, off, none⟩ : Addr).add j = ⟨b, off + j, none⟩ from by
        unfold Addr.add
        by_cases h : j = 0
        · subst h; simp
        · rw [if_neg h]]
      exact hc j u hu
    obtain ⟨v', w', hrun, ho, hg, -, hvo⟩ := run_append_own_at (P := Try.prog) w B t ty e i0 z size bytes ht hi hz0 hz1 hz2 hzs hsz (.slice A n c) n xs hown a m k ys hsrc.1 hnews hone (by unfold maxLen; omega) (by have := Nat.mul_le_mul hsmall hby; omega) hB
    obtain ⟨A', c', rfl, -, -⟩ := own_slice ho
    exact ⟨A', c', w', hrun, ho, hg, hvo⟩
theorem wpList_append_row {ops : Array Oper} {rest : List Oper} {o : Oper} {a : Act} {Q : Exit → Act → World → Prop} (w : World) (hgd : o.guard = none) (s x : Operand) (t : TypeId) (ho : o.op = .call { callee := .builtin .append, args := #[s, x], argTypes := #[t, t] }) (e : TypeId) (i0 : TypeInfo) (z : Value) (size bytes : Nat) (ht : Try.prog.underlying t = some (.slice e)) (hi : Try.prog.info? e = some i0) (hz0 : i0.zero = some z) (hz1 : i0.size = size) (hz2 : i0.bytes = bytes) (hzs : z.cells.size = size) (hsz : 0 < size)
    (B : Nat) (A : Option Addr) (n c : Nat) (xs : List Value) (hs : a.eval s = .slice A n c) (hown : w.ownsRow B e size (.slice A n c) n xs) (S : Option Addr) (m k : Nat) (ys : List Value) (hx : a.eval x = .slice S m k) (hsrc : Row w S m size ys) (hone : ∀ u ∈ ys, u.oneCell' = true) (hsmall : n + m ≤ 100000) (hby : bytes ≤ 1000) (hB : B ≤ w.heap.size)
    (h : ∀ A' c' w', w'.ownsRow B e size (.slice A' (n + m) c') (n + m) (xs ++ ys) → w.grownBy w' (Value.slice A n c).ownBlock → ((Value.slice A' (n + m) c').ownBlock = (Value.slice A n c).ownBlock ∨ (Value.slice A' (n + m) c').ownBlock = some w.heap.size) → wpList Try.prog ops Q rest (a.put o.dst (.slice A' (n + m) c')) w') : wpList Try.prog ops Q (o :: rest) a w := by
  refine wpList_plain hgd fun K hK => ?_
  obtain ⟨A', c', w', hr, h2, h3, h4⟩ := run_append_row w t o.type e i0 z size bytes ht hi hz0 hz1 hz2 hzs hsz B A n c xs hown S m k ys hsrc hone hsmall hby hB
  unfold Oper.wp execOp
  simp only [ho, resolve, invoke, builtin, Sem.run_bind, Sem.run_pure, Result.andThen_ok, List.map_toArray, List.map_cons, List.map_nil, hs, hx, hr]
  exact hK _ _ (h A' c' w' h2 h3 h4)
theorem row_of_blk2 {w : World} {q : Nat} {a b : Value} {T : TypeId} (h : w.heap[q]? = some (.cells #[a, b] T)) : Row w (some ⟨q, 0, none⟩) 1 2 [a, b] :=
  ⟨rfl, fun _ => ⟨q, 0, rfl, (Array.getElem?_eq_some_iff.1 h).1, fun j u hu => by
    rw [Nat.zero_add]
    exact opblk_cell h j u (by simpa using hu)⟩⟩
theorem info_rturn : (Try.prog.info? 80).map (fun i => (i.zero, i.size, i.bytes)) = some (some (.agg #[.int .i64 0, .int .i64 0]), 2, 16) := by kernel_rfl
theorem turnC_one {ts : List (Nat × Nat)} {u : Value} (h : u ∈ ts.flatMap turnC) : u.oneCell' = true := by
  obtain ⟨t, -, hu⟩ := List.mem_flatMap.1 h
  simp [turnC] at hu
  rcases hu with rfl | rfl <;> rfl
theorem frC_one {rs : List (FAt FFrame)} {u : Value} (h : u ∈ rs.flatMap frCells) : u.oneCell' = true := frCells_oneM h
/-- other turns, in new memory -/
theorem ref_turns {l : List FOp} {s : MSt} {F : Nat → Prop} {y : Nat} {r : RSl} {W1 w9 : World} (h : RefW l s F y r W1) (hb : Below W1.heap.size W1 w9) {A : Option Addr} {n c : Nat} {ts : List (Nat × Nat)} (hown : w9.ownsRow W1.heap.size 80 2 (.slice A n c) n (ts.flatMap turnC)) (hn : ts.length = n) :
    RefW l { s with turns := ts } F y { r with tA := A, tn := n, tc := c } (w9.setCell ⟨y, 2, none⟩ (.slice A n c)) := by
  have hm := h.below hb
  obtain ⟨A4, c4, e4, hA4, hc4, -⟩ := own_slice hown
  injection e4 with e5 _ e6
  subst e5 e6
  exact RefW.store hm.box hm.flt hm.fy (hm.rest.turnsTo (s' := { s with turns := ts }) (Row.of_own hown) (FarR.new (fun a ha => (hA4 a ha).1) h.zlt) hn hc4 rfl rfl rfl) 2 _ rfl
/-- other frames, in new memory -/
theorem ref_frames {l : List FOp} {s : MSt} {F : Nat → Prop} {y : Nat} {r : RSl} {W1 w9 : World} (h : RefW l s F y r W1) (hb : Below W1.heap.size W1 w9) {A : Option Addr} {n c : Nat} {x : FPic} {a : Int} {Ap : Option Addr} {N cp : Nat} (hp : Pixs w9 Ap N x.p) (hnew : ∀ q, Ap = some q → W1.heap.size ≤ q.block)
    (hown : w9.ownsRow W1.heap.size 60 4 (.slice A n c) n (r.frs.flatMap frCells ++ [.int .i64 x.w, .int .i64 x.h, .slice Ap N cp, .int .i64 a])) (hn : r.fn + 1 = n) :
    RefW l { s with frames := s.frames ++ [⟨x, a⟩] } F y { r with fA := A, fn := n, fc := c, frs := r.frs ++ [⟨⟨x, a⟩, Ap, N, cp⟩] } (w9.setCell ⟨y, 7, none⟩ (.slice A n c)) := by
  have hm := h.below hb
  obtain ⟨A4, c4, e4, hA4, -, -⟩ := own_slice hown
  injection e4 with e5 _ e6
  subst e5 e6
  have hfr : FFrs (RZ F y) w9 (r.frs ++ [⟨⟨x, a⟩, Ap, N, cp⟩]) := by
    refine ⟨fun q hq => ?_, fun q hq => ?_⟩
    · rcases List.mem_append.1 hq with hq | hq
      · exact hm.rest.pics.pixs q hq
      · simp at hq; subst hq; exact hp
    · rcases List.mem_append.1 hq with hq | hq
      · exact hm.rest.pics.pics q hq
      · simp at hq; subst hq; exact FarR.new hnew h.zlt
  refine RefW.store hm.box hm.flt hm.fy (hm.rest.framesTo (s' := { s with frames := s.frames ++ [⟨x, a⟩] }) (A := A) (n := n) (c := c) ?_ (FarR.new (fun a ha => (hA4 a ha).1) h.zlt) ?_ ?_ hfr rfl rfl rfl) 7 _ rfl
  · rw [List.flatMap_append]; exact Row.of_own hown
  · rw [List.length_append, hm.rest.framesn]; exact hn
  · unfold frD; rw [List.map_append]; have := hm.rest.framesd; unfold frD at this; rw [this]; rfl
set_option maxRecDepth 100000 in
theorem ref_app1 {l : List FOp} {s : MSt} {F : Nat → Prop} {y : Nat} {r : RSl} {W1 : World} (h : RefW l s F y r W1) (hn : r.tn ≤ 100) (W2 : World) (hb : Below W1.heap.size W1 W2) :
    ∃ A' c' w', (Builtin.append_ #[39, 39] 39 #[.slice none 0 0, .slice r.tA r.tn r.tc]).run Try.prog W2 = .ok (.slice A' r.tn c') w' ∧ w'.ownsRow W1.heap.size 80 2 (.slice A' r.tn c') r.tn (s.turns.flatMap turnC) ∧ Below W2.heap.size W2 w' := by
  obtain ⟨i0, hi, hz0, hz1, hz2⟩ := info_parts info_rturn
  obtain ⟨A', c', w', h1, h2, h3, -⟩ := run_append_row W2 39 39 80 i0 _ 2 16 Try.underlying39 hi hz0 hz1 hz2 rfl (by decide) W1.heap.size none 0 0 [] (World.ownsRow_nil _ _ _ _) r.tA r.tn r.tc (s.turns.flatMap turnC) ((h.below hb).rest.turns) (fun u hu => turnC_one hu) (by omega) (by omega) hb.size
  rw [Nat.zero_add] at h1 h2
  rw [List.nil_append] at h2
  exact ⟨A', c', w', h1, h2, below_gb h3⟩
set_option maxRecDepth 100000 in
theorem ref_app2 {W1 W2 : World} {A : Option Addr} {n c q : Nat} {xs : List Value} {a b : Value} (hn : n ≤ 100) (hs : W1.heap.size ≤ W2.heap.size) (ho : W2.ownsRow W1.heap.size 80 2 (.slice A n c) n xs) (hq : W2.heap[q]? = some (.cells #[a, b] 80)) (h1 : a.oneCell' = true) (h2 : b.oneCell' = true) :
    ∃ A' c' w', (Builtin.append_ #[39, 39] 39 #[.slice A n c, .slice (some ⟨q, 0, none⟩) 1 1]).run Try.prog W2 = .ok (.slice A' (n + 1) c') w' ∧ w'.ownsRow W1.heap.size 80 2 (.slice A' (n + 1) c') (n + 1) (xs ++ [a, b]) ∧ W2.grownBy w' (Value.slice A n c).ownBlock := by
  obtain ⟨i0, hi, hz0, hz1, hz2⟩ := info_parts info_rturn
  obtain ⟨A', c', w', e1, e2, e3, -⟩ := run_append_row W2 39 39 80 i0 _ 2 16 Try.underlying39 hi hz0 hz1 hz2 rfl (by decide) W1.heap.size A n c xs ho (some ⟨q, 0, none⟩) 1 1 [a, b] (row_of_blk2 hq) (fun u hu => by simp at hu; rcases hu with rfl | rfl <;> assumption) (by omega) (by omega) hs
  exact ⟨A', c', w', e1, e2, e3⟩
theorem step_app1 {ops : Array Oper} {o : Oper} {act : Act} {K : Act → World → Prop} {Q : Exit → Act → World → Prop} {E : Prop} {l : List FOp} {s : MSt} {F : Nat → Prop} {y : Nat} {r : RSl} {W1 : World} (h : RefW l s F y r W1) (hn : r.tn ≤ 100) (W2 : World) (hb : Below W1.heap.size W1 W2)
    (hgd : o.guard = none) (sv xv : Operand) (ho : o.op = .call { callee := .builtin .append, args := #[sv, xv], argTypes := #[39, 39] }) (hty : o.type = 39) (hs : act.eval sv = .slice none 0 0) (hx : act.eval xv = .slice r.tA r.tn r.tc)
    (hk : ∀ A' c' w', w'.ownsRow W1.heap.size 80 2 (.slice A' r.tn c') r.tn (s.turns.flatMap turnC) → Below W2.heap.size W2 w' → K (act.put o.dst (.slice A' r.tn c')) w') :
    if Region.wanted o (yielded ops act.tmps) = true then Oper.wp Try.prog o act W2 K Q else E := by
  obtain ⟨A', c', w', h1, h2, h3⟩ := ref_app1 h hn W2 hb
  exact step_append_run hgd sv xv _ ho _ _ hs hx _ _ (by rw [hty]; exact h1) (hk A' c' w' h2 h3)
theorem step_app2 {ops : Array Oper} {o : Oper} {act : Act} {K : Act → World → Prop} {Q : Exit → Act → World → Prop} {E : Prop} {W1 W2 : World} {A : Option Addr} {n c q : Nat} {xs : List Value} {a b : Value} (hn : n ≤ 100) (hsz : W1.heap.size ≤ W2.heap.size) (hown : W2.ownsRow W1.heap.size 80 2 (.slice A n c) n xs) (hq : W2.heap[q]? = some (.cells #[a, b] 80)) (h1 : a.oneCell' = true) (h2 : b.oneCell' = true)
    (hgd : o.guard = none) (sv xv : Operand) (ho : o.op = .call { callee := .builtin .append, args := #[sv, xv], argTypes := #[39, 39] }) (hty : o.type = 39) (hs : act.eval sv = .slice A n c) (hx : act.eval xv = .slice (some ⟨q, 0, none⟩) 1 1)
    (hk : ∀ A' c' w', w'.ownsRow W1.heap.size 80 2 (.slice A' (n + 1) c') (n + 1) (xs ++ [a, b]) → W2.grownBy w' (Value.slice A n c).ownBlock → K (act.put o.dst (.slice A' (n + 1) c')) w') :
    if Region.wanted o (yielded ops act.tmps) = true then Oper.wp Try.prog o act W2 K Q else E := by
  obtain ⟨A', c', w', e1, e2, e3⟩ := ref_app2 hn hsz hown hq h1 h2
  exact step_append_run hgd sv xv _ ho _ _ hs hx _ _ (by rw [hty]; exact e1) (hk A' c' w' e2 e3)
theorem row_of_blk4 {w : World} {q : Nat} {a b c d : Value} {T : TypeId} (h : w.heap[q]? = some (.cells #[a, b, c, d] T)) : Row w (some ⟨q, 0, none⟩) 1 4 [a, b, c, d] :=
  ⟨rfl, fun _ => ⟨q, 0, rfl, (Array.getElem?_eq_some_iff.1 h).1, fun j u hu => by
    rw [Nat.zero_add]
    exact opblk_cell h j u (by simpa using hu)⟩⟩
set_option maxRecDepth 100000 in
theorem ref_fapp1 {l : List FOp} {s : MSt} {F : Nat → Prop} {y : Nat} {r : RSl} {W1 : World} (h : RefW l s F y r W1) (hn : r.fn ≤ 100) (W2 : World) (hb : Below W1.heap.size W1 W2) :
    ∃ A' c' w', (Builtin.append_ #[25, 25] 25 #[.slice none 0 0, .slice r.fA r.fn r.fc]).run Try.prog W2 = .ok (.slice A' r.fn c') w' ∧ w'.ownsRow W1.heap.size 60 4 (.slice A' r.fn c') r.fn (r.frs.flatMap frCells) ∧ Below W2.heap.size W2 w' := by
  obtain ⟨i0, hi, hz0, hz1, hz2⟩ := info_parts info_frameM
  obtain ⟨A', c', w', h1, h2, h3, -⟩ := run_append_row W2 25 25 60 i0 _ 4 48 Try.underlying25 hi hz0 hz1 hz2 rfl (by decide) W1.heap.size none 0 0 [] (World.ownsRow_nil _ _ _ _) r.fA r.fn r.fc (r.frs.flatMap frCells) ((h.below hb).rest.frames) (fun u hu => frCells_oneM hu) (by omega) (by omega) hb.size
  rw [Nat.zero_add] at h1 h2
  rw [List.nil_append] at h2
  exact ⟨A', c', w', h1, h2, below_gb h3⟩
set_option maxRecDepth 100000 in
theorem ref_fapp2 {W1 W2 : World} {A : Option Addr} {n c q : Nat} {xs : List Value} {a b c2 d : Value} (hn : n ≤ 100) (hs : W1.heap.size ≤ W2.heap.size) (ho : W2.ownsRow W1.heap.size 60 4 (.slice A n c) n xs) (hq : W2.heap[q]? = some (.cells #[a, b, c2, d] 60)) (h1 : a.oneCell' = true) (h2 : b.oneCell' = true) (h3 : c2.oneCell' = true) (h4 : d.oneCell' = true) :
    ∃ A' c' w', (Builtin.append_ #[25, 25] 25 #[.slice A n c, .slice (some ⟨q, 0, none⟩) 1 1]).run Try.prog W2 = .ok (.slice A' (n + 1) c') w' ∧ w'.ownsRow W1.heap.size 60 4 (.slice A' (n + 1) c') (n + 1) (xs ++ [a, b, c2, d]) ∧ W2.grownBy w' (Value.slice A n c).ownBlock := by
  obtain ⟨i0, hi, hz0, hz1, hz2⟩ := info_parts info_frameM
  obtain ⟨A', c', w', e1, e2, e3, -⟩ := run_append_row W2 25 25 60 i0 _ 4 48 Try.underlying25 hi hz0 hz1 hz2 rfl (by decide) W1.heap.size A n c xs ho (some ⟨q, 0, none⟩) 1 1 [a, b, c2, d] (row_of_blk4 hq) (fun u hu => by simp at hu; rcases hu with rfl | rfl | rfl | rfl <;> assumption) (by omega) (by omega) hs
  exact ⟨A', c', w', e1, e2, e3⟩
theorem step_fapp1 {ops : Array Oper} {o : Oper} {act : Act} {K : Act → World → Prop} {Q : Exit → Act → World → Prop} {E : Prop} {l : List FOp} {s : MSt} {F : Nat → Prop} {y : Nat} {r : RSl} {W1 : World} (h : RefW l s F y r W1) (hn : r.fn ≤ 100) (W2 : World) (hb : Below W1.heap.size W1 W2)
    (hgd : o.guard = none) (sv xv : Operand) (ho : o.op = .call { callee := .builtin .append, args := #[sv, xv], argTypes := #[25, 25] }) (hty : o.type = 25) (hs : act.eval sv = .slice none 0 0) (hx : act.eval xv = .slice r.fA r.fn r.fc)
    (hk : ∀ A' c' w', w'.ownsRow W1.heap.size 60 4 (.slice A' r.fn c') r.fn (r.frs.flatMap frCells) → Below W2.heap.size W2 w' → K (act.put o.dst (.slice A' r.fn c')) w') :
    if Region.wanted o (yielded ops act.tmps) = true then Oper.wp Try.prog o act W2 K Q else E := by
  obtain ⟨A', c', w', h1, h2, h3⟩ := ref_fapp1 h hn W2 hb
  exact step_append_run hgd sv xv _ ho _ _ hs hx _ _ (by rw [hty]; exact h1) (hk A' c' w' h2 h3)
theorem step_fapp2 {ops : Array Oper} {o : Oper} {act : Act} {K : Act → World → Prop} {Q : Exit → Act → World → Prop} {E : Prop} {W1 W2 : World} {A : Option Addr} {n c q : Nat} {xs : List Value} {a b c2 d : Value} (hn : n ≤ 100) (hsz : W1.heap.size ≤ W2.heap.size) (hown : W2.ownsRow W1.heap.size 60 4 (.slice A n c) n xs) (hq : W2.heap[q]? = some (.cells #[a, b, c2, d] 60)) (h1 : a.oneCell' = true) (h2 : b.oneCell' = true) (h3 : c2.oneCell' = true) (h4 : d.oneCell' = true)
    (hgd : o.guard = none) (sv xv : Operand) (ho : o.op = .call { callee := .builtin .append, args := #[sv, xv], argTypes := #[25, 25] }) (hty : o.type = 25) (hs : act.eval sv = .slice A n c) (hx : act.eval xv = .slice (some ⟨q, 0, none⟩) 1 1)
    (hk : ∀ A' c' w', w'.ownsRow W1.heap.size 60 4 (.slice A' (n + 1) c') (n + 1) (xs ++ [a, b, c2, d]) → W2.grownBy w' (Value.slice A n c).ownBlock → K (act.put o.dst (.slice A' (n + 1) c')) w') :
    if Region.wanted o (yielded ops act.tmps) = true then Oper.wp Try.prog o act W2 K Q else E := by
  obtain ⟨A', c', w', e1, e2, e3⟩ := ref_fapp2 hn hsz hown hq h1 h2 h3 h4
  exact step_append_run hgd sv xv _ ho _ _ hs hx _ _ (by rw [hty]; exact e1) (hk A' c' w' e2 e3)
theorem ref_turns2 {l : List FOp} {s : MSt} {F : Nat → Prop} {y : Nat} {r : RSl} {W1 w9 : World} {p : Nat} (h : RefW l s F y r W1) (hk : KeepM (fun b => b = y) W1 w9) {cur : Array Value} (hbx : w9.heap[y]? = some (.cells cur 44)) {A : Option Addr} {n c : Nat} {ts : List (Nat × Nat)} (hown : w9.ownsRow W1.heap.size 80 2 (.slice A n c) n (ts.flatMap turnC)) (hn : ts.length = n)
    (hc : cur.setIfInBounds 2 (.slice A n c) = RSl.cells { r with tA := A, tn := n, tc := c } { s with at_ := p, turns := ts }) : RefW l { s with at_ := p, turns := ts } F y { r with tA := A, tn := n, tc := c } (w9.setCell ⟨y, 2, none⟩ (.slice A n c)) := by
  have hrest := h.rest.keptM (hk.weak (Z' := RZ F y) (fun b e => Or.inl e))
  obtain ⟨A4, c4, e4, hA4, hc4, -⟩ := own_slice hown
  injection e4 with e5 _ e6
  subst e5 e6
  exact RefW.store hbx (fun b e => Nat.lt_of_lt_of_le (h.flt b e) hk.size) h.fy (hrest.turnsTo (s' := { s with at_ := p, turns := ts }) (Row.of_own hown) (FarR.new (fun a ha => (hA4 a ha).1) h.zlt) hn hc4 rfl rfl rfl) 2 _ hc
theorem wpList_append_tnil {ops : Array Oper} {rest : List Oper} {o : Oper} {a : Act} {Q : Exit → Act → World → Prop} (w : World) (hgd : o.guard = none) (sv xv : Operand) (ho : o.op = .call { callee := .builtin .append, args := #[sv, xv], argTypes := #[39, 39] }) {B : Nat} (hB : B ≤ w.heap.size)
    (S : Option Addr) (m k : Nat) (ts : List (Nat × Nat)) (hs : a.eval sv = .slice none 0 0) (hx : a.eval xv = .slice S m k) (hsrc : Row w S m 2 (ts.flatMap turnC)) (hm : m ≤ 100)
    (h : ∀ A' c' w', w'.ownsRow B 80 2 (.slice A' m c') m (ts.flatMap turnC) → Below w.heap.size w w' → wpList Try.prog ops Q rest (a.put o.dst (.slice A' m c')) w') : wpList Try.prog ops Q (o :: rest) a w := by
  obtain ⟨i0, hi, hz0, hz1, hz2⟩ := info_parts info_rturn
  refine wpList_append_row w hgd sv xv 39 ho 80 i0 _ 2 16 Try.underlying39 hi hz0 hz1 hz2 rfl (by decide) B none 0 0 [] hs (World.ownsRow_nil _ _ _ _) S m k (ts.flatMap turnC) hx hsrc (fun u hu => turnC_one hu) (by omega) (by omega) hB fun A' c' w' h1 h2 _ => ?_
  rw [Nat.zero_add, List.nil_append] at h1
  rw [Nat.zero_add]
  exact h A' c' w' h1 (below_gb h2)
set_option maxRecDepth 100000 in
set_option maxHeartbeats 16000000 in
theorem rstep_any (l : List FOp) (s : MSt) (F : Nat → Prop) (y : Nat) (r : RSl) (W : World) (h : RefW l s F y r W) (hf : BookFine l) (hok : MOk l s) :
    Calls Try.prog 22 #[.pointer (some ⟨y, 0, none⟩)] W (RetR (stepP l s).2 l (stepP l s).1 F y W) := by
  have hlen : l.length = r.ln := by
    have h1 := h.rest.ops.ops.1
    have h2 := congrArg List.length h.rest.opsd
    rw [datO_len] at h2
    omega
  have hat := hok.at_
  have h60 := hf.few
  obtain ⟨lb, lo, r0, hlA, hlb, hr0, hlc⟩ := ops_at h.rest.ops.ops (k := s.at_) (by omega)
  have he0 := ops_fst h.rest.opsd hr0
  have hr0m : r0 ∈ r.ols := List.mem_of_getElem? hr0
  have hpx := h.rest.ops.ops.2.2 r0 hr0m
  have hpf := h.rest.ops.pics r0 hr0m
  have hof := hf.ops _ hat
  rw [he0] at hof
  obtain ⟨⟨k, i, a, b, c, d, ⟨pw, ph, pl⟩⟩, pA, pn, pc⟩ := r0
  have y0 := hlc 0 _ rfl
  have y1 := hlc 1 _ rfl
  have y2 := hlc 2 _ rfl
  have y3 := hlc 3 _ rfl
  have y4 := hlc 4 _ rfl
  have y5 := hlc 5 _ rfl
  have y6 := hlc 6 _ rfl
  have y7 := hlc 7 _ rfl
  have y8 := hlc 8 _ rfl
  rw [Nat.add_zero] at y0
  simp only at y0 y1 y2 y3 y4 y5 y6 y7 y8 hpx hpf hof he0
  obtain ⟨x0, x1, -⟩ := h.cell
  rw [hlA] at x0
  have k0 : (0 : Int) ≤ (s.at_ : Int) := by omega
  have k1 : (s.at_ : Int) < (r.ln : Int) := by omega
  have hgW : y < W.heap.size := h.lt
  have H := hid h
  have HF := hid hf
  have HK := hid hok
  have He := hid he0
  have Hpx := hid hpx
  have Hpf := hid hpf
  have Hof := hid hof
  clear h hf hok hlc hr0 hr0m he0 hpx hpf hof hlA hlen
  go_enter Try.func22, Try.ntmps22
  go_upto_region 1 with fail
  go_cut [3] (fun t wi => StepR W k i a b c d pw ph pA pn pc t wi)
  case first =>
    (refine wp_region_alloc_last_at 10 3 _ _ (.cells #[.int .i64 0, .int .i64 0, .int .i64 0, .int .i64 0, .int .i64 0, .int .i64 0, .int .i64 0, .int .i64 0, .slice none 0 0] 51) rfl (by kernel_rfl) (by kernel_rfl) (by kernel_rfl) (by kernel_rfl) rfl (fun a w => by rfl) ?_)
    intro W2 hW
    have F0 := cell_all2 (b := y) (by have := hW.size; omega) (held_cell hW hgW x0)
    have F2 := cell_all2 (b := y) (by have := hW.size; omega) (held_cell hW hgW x1)
    have G0 := cell_all2 (b := lb) (by have := hW.size; omega) (held_cell hW hlb y0)
    have G1 := cell_all2 (b := lb) (by have := hW.size; omega) (held_cell hW hlb y1)
    have G2 := cell_all2 (b := lb) (by have := hW.size; omega) (held_cell hW hlb y2)
    have G3 := cell_all2 (b := lb) (by have := hW.size; omega) (held_cell hW hlb y3)
    have G4 := cell_all2 (b := lb) (by have := hW.size; omega) (held_cell hW hlb y4)
    have G5 := cell_all2 (b := lb) (by have := hW.size; omega) (held_cell hW hlb y5)
    have G6 := cell_all2 (b := lb) (by have := hW.size; omega) (held_cell hW hlb y6)
    have G7 := cell_all2 (b := lb) (by have := hW.size; omega) (held_cell hW hlb y7)
    have G8 := cell_all2 (b := lb) (by have := hW.size; omega) (held_cell hW hlb y8)
    clear x0 x1 y0 y1 y2 y3 y4 y5 y6 y7 y8 hW
    simp only [List.take_succ_cons, List.take_zero]
    repeat (quiet_step (fail))
    refine wpQuiet_nil ?_
    intro go w2 hg hblk hb2
    have z0 := opblk_cell hblk 0 _ rfl
    have z1 := opblk_cell hblk 1 _ rfl
    have z2 := opblk_cell hblk 2 _ rfl
    have z3 := opblk_cell hblk 3 _ rfl
    have z4 := opblk_cell hblk 4 _ rfl
    have z5 := opblk_cell hblk 5 _ rfl
    have z6 := opblk_cell hblk 6 _ rfl
    have z7 := opblk_cell hblk 7 _ rfl
    have z8 := opblk_cell hblk 8 _ rfl
    have zf := fun o => opblk_free hblk o
    have HB := hid hblk
    clear F0 F2 G0 G1 G2 G3 G4 G5 G6 G7 G8 hblk
    go_wp2_with fail
    go_meet
    exact ⟨go, rfl, opbox_nine HB.out, ((((((((hb2.setCell hg _).setCell hg _).setCell hg _).setCell hg _).setCell hg _).setCell hg _).setCell hg _).setCell hg _).setCell hg _⟩
  case rest =>
    obtain ⟨go, rfl, hbox, hb1⟩ := hcut
    obtain ⟨W1, rfl⟩ : ∃ W1 : World, W1 = wc := ⟨_, rfl⟩
    have HO1 := hid hbox
    have H1 := hid (H.out.below hb1)
    have Hpx1 := hid (Hpx.out.below hb1)
    have HB0 := hid hb1
    have HK0 := hid (KeepM.of_below (Z := fun b => b = y) hb1)
    clear hbox hb1 H Hpx x0 x1 y0 y1 y2 y3 y4 y5 y6 y7 y8 hlb
    obtain ⟨c0, c1, c2, c3, c4, c5, c6, c7, c8⟩ := OpBoxAt.cells HO1.out
    have hgW1 : y < W1.heap.size := H1.out.lt
    rcases kind_ways k with rfl | rfl | rfl | rfl | rfl | rfl | rfl | rfl | hk
    · have HV := hid (show stepP l s = (s, 0) by unfold stepP stepO; rw [He.out]; rfl)
      go_wp2_with fail
      go_ret
      rw [HV.out]
      exact ⟨rfl, ⟨r, H1.out⟩, HK0.out⟩
    · have HV := hid (show stepP l s = ({ s with at_ := s.at_ + 1 }, 0) by unfold stepP stepO; rw [He.out]; rfl)
      have HN := hid (show s.at_ ≤ 1000 by omega)
      obtain ⟨z1, zf⟩ : _ ∧ _ := ⟨H1.out.cell.2.1, opblk_free H1.out.box 1⟩
      have hw2 := one_wrap (n := _) HN.out
      have HT := hid (ref_tail H1.out HK0.out)
      go_wp2_with fail
      go_ret
      rw [HV.out]
      exact ⟨rfl, HT.out.1, HT.out.2⟩
    · have HV := hid (show stepP l s = ({ s with at_ := s.at_ + 1, back := (a, b) }, 0) by unfold stepP stepO; rw [He.out]; rfl)
      have HN := hid (show s.at_ ≤ 1000 by omega)
      obtain ⟨q5, q6, f5, f6⟩ : _ ∧ _ ∧ _ ∧ _ := ⟨H1.out.cell.2.2.2.2.2.1, H1.out.cell.2.2.2.2.2.2.1, opblk_free H1.out.box 5, opblk_free H1.out.box 6⟩
      go_upto_region 31 with fail
      have hm2 : RefW l { s with back := (a, b) } F y r ((W1.setCell ⟨y, 5, none⟩ (.int .i64 a)).setCell ⟨y, 6, none⟩ (.int .i64 b)) :=
        RefW.store (box_set H1.out.box) (fun q e => by have := H1.out.flt q e; exact Nat.lt_of_lt_of_le this (gb_set (gb_refl W1 (some y)) 5 _).size) H1.out.fy ((H1.out.rest.sety 5 (.int .i64 a)).same (s' := { s with back := (a, b) }) rfl rfl rfl rfl) 6 (.int .i64 b) rfl
      obtain ⟨W3, hW3⟩ : ∃ W3, W3 = (W1.setCell ⟨y, 5, none⟩ (.int .i64 a)).setCell ⟨y, 6, none⟩ (.int .i64 b) := ⟨_, rfl⟩
      have HK3 := hid (show KeepM (fun b => b = y) W W3 by rw [hW3]; exact (HK0.out.setCell rfl _ _).setCell rfl _ _)
      rw [← hW3] at hm2 ⊢
      have H3 := hid hm2
      clear hW3 hm2 q5 q6 f5 f6
      obtain ⟨z1, zf⟩ : _ ∧ _ := ⟨H3.out.cell.2.1, opblk_free H3.out.box 1⟩
      have hw2 := one_wrap (n := _) HN.out
      have HT := hid (ref_tail H3.out HK3.out)
      go_wp2_with fail
      go_ret
      rw [HV.out]
      exact ⟨rfl, HT.out.1, HT.out.2⟩
    · have HN := hid (show s.at_ ≤ 1000 by omega)
      have hfl : s.frames.length = r.fn := by rw [← H1.out.rest.framesd, ← H1.out.rest.framesn]; simp [frD]
      have q7 := H1.out.cell.2.2.2.2.2.2.2
      by_cases hfu : s.frames.length = 40
      · have HV := hid (show stepP l s = (s, 7) by unfold stepP stepO; rw [He.out]; simp [hfu])
        have hz : ((r.fn : Int) == 40) = true := by simp; omega
        go_wp2_with fail
        go_ret
        rw [HV.out]
        exact ⟨rfl, ⟨r, H1.out⟩, HK0.out⟩
      · have HV := hid (show stepP l s = ({ s with at_ := s.at_ + 1, frames := s.frames ++ [⟨seenP s.objs (headW l) (headH l) s.back, a⟩] }, 0) by unfold stepP stepO; rw [He.out]; simp [hfu])
        have hz : ((r.fn : Int) == 40) = false := by simp; omega
        have hfn : r.fn ≤ 100 := by have := HK.out.few; omega
        obtain ⟨s1, s2, s3, s4, s5, s6⟩ := head_sides HF.out
        have hl0 : 0 < r.ln := by omega
        obtain ⟨lb0, lo0, r0, hlA0, hlb0, hr0, hlc0⟩ := ops_at H1.out.rest.ops.ops hl0
        have he0 := ops_fst H1.out.rest.opsd hr0
        rw [he0] at s5 s6
        have y2 := hlc0 2 _ rfl
        have y3 := hlc0 3 _ rfl
        rw [← s5, show lo0 + 0 * 9 + 2 = lo0 + 2 by omega] at y2
        rw [← s6, show lo0 + 0 * 9 + 3 = lo0 + 3 by omega] at y3
        clear s5 s6 he0 hlc0 hr0
        have k2 : (0 : Int) < (r.ln : Int) := by omega
        have KS := hid (fun W2 (hb : Below W1.heap.size W1 W2) => (by
          obtain ⟨v0, v1, v2, v3, v4, v5, v6, v7⟩ := (H1.out.below hb).cell
          have v8 := (OpBoxAt.cells (blk_keep HO1.out hb)).2.2.1
          rw [hlA0] at v0
          exact ⟨v0, v3, v5, v6, v7, (hb.cell (p := ⟨lb0, lo0 + 2, none⟩) hlb0).trans y2, (hb.cell (p := ⟨lb0, lo0 + 3, none⟩) hlb0).trans y3, v8⟩ :
          W2.cell? ⟨y, 0, none⟩ = some (.slice (some ⟨lb0, lo0, none⟩) r.ln r.lc) ∧ W2.cell? ⟨y, 3, none⟩ = some (.slice r.oA r.on r.oc) ∧ W2.cell? ⟨y, 5, none⟩ = some (.int .i64 s.back.1) ∧ W2.cell? ⟨y, 6, none⟩ = some (.int .i64 s.back.2) ∧ W2.cell? ⟨y, 7, none⟩ = some (.slice r.fA r.fn r.fc) ∧ W2.cell? ⟨lb0, lo0 + 2, none⟩ = some (.int .i64 (headW l : Int)) ∧ W2.cell? ⟨lb0, lo0 + 3, none⟩ = some (.int .i64 (headH l : Int)) ∧ W2.cell? ⟨go, 2, none⟩ = some (.int .i64 a)))
        have C1 := hid (fun W2 (hb : Below W1.heap.size W1 W2) => rseen_any r.oA r.on r.oc r.os (headW l) (headH l) s.back W2 (H1.out.rest.objs.objs.below hb) (dat_fineM (by rw [H1.out.rest.objsd]; exact HK.out.objs.2)) (by
          have h1 := objs_few (l := dat r.os) (by rw [H1.out.rest.objsd]; exact HK.out.objs)
          rw [dat_len, H1.out.rest.objs.objs.1] at h1
          omega) s1 s2 s3 s4 HK.out.back)
        rw [H1.out.rest.objsd] at C1
        have HD := hid (fun w9 A c {Ap : Option Addr} {Np cp : Nat} (hb : Below W1.heap.size W1 w9) (hp : Pixs w9 Ap Np (seenP s.objs (headW l) (headH l) s.back).p) (hnew : ∀ q, Ap = some q → W1.heap.size ≤ q.block) (ho : w9.ownsRow W1.heap.size 60 4 (.slice A (r.fn + 1) c) (r.fn + 1) (r.frs.flatMap frCells ++ [.int .i64 (seenP s.objs (headW l) (headH l) s.back).w, .int .i64 (seenP s.objs (headW l) (headH l) s.back).h, .slice Ap Np cp, .int .i64 a])) => ref_frames (a := a) H1.out hb hp hnew ho rfl)
        go_upto_region 15 with fail
        clear q7 hlb0 y2 y3 c0 c1 c2 c3 c4 c5 c6 c7 c8
        refine wp_region_held_last (fun W => W.cell? ⟨y, 0, none⟩ = some (.slice (some ⟨lb0, lo0, none⟩) r.ln r.lc) ∧ W.cell? ⟨y, 3, none⟩ = some (.slice r.oA r.on r.oc) ∧ W.cell? ⟨y, 5, none⟩ = some (.int .i64 s.back.1) ∧ W.cell? ⟨y, 6, none⟩ = some (.int .i64 s.back.2) ∧ W.cell? ⟨y, 7, none⟩ = some (.slice r.fA r.fn r.fc) ∧ W.cell? ⟨lb0, lo0 + 2, none⟩ = some (.int .i64 (headW l : Int)) ∧ W.cell? ⟨lb0, lo0 + 3, none⟩ = some (.int .i64 (headH l : Int)) ∧ W.cell? ⟨go, 2, none⟩ = some (.int .i64 a)) 36 _ rfl (by kernel_rfl) (by kernel_rfl) (KS.out _ (Below.refl _ _).drew) (fun hS => ?_)
        simp only [List.take_succ_cons, List.take_zero]
        have HBx : Below W1.heap.size W1 W1.drew := (Below.refl _ _).drew
        refine wpAnyH_take (i := 0) (v := ?vw1) rfl (by kernel_rfl) (by kernel_rfl) (by kernel_rfl) (fun _ _ _ h => h) (Or.inl ⟨by rfl, ?hyw1⟩) hS ?restw1
        case hyw1 => intro w hSw; (try dsimp only at hSw); go_simp; with_reducible rfl
        case restw1 =>
         (try simp only [Act.put, List.setIfInBounds_toArray, List.set_cons_zero, List.set_cons_succ])
         refine wpAnyH_take (i := 1) (v := ?vw2) rfl (by kernel_rfl) (by kernel_rfl) (by kernel_rfl) (fun _ _ _ h => h) (Or.inl ⟨by rfl, ?hyw2⟩) hS ?restw2
         case hyw2 => intro w hSw; (try dsimp only at hSw); go_simp; with_reducible rfl
         case restw2 =>
          (try simp only [Act.put, List.setIfInBounds_toArray, List.set_cons_zero, List.set_cons_succ])
          refine wpAnyH_take (i := 2) (v := ?vw3) rfl (by kernel_rfl) (by kernel_rfl) (by kernel_rfl) (fun _ _ _ h => h) (Or.inl ⟨by rfl, ?hyw3⟩) hS ?restw3
          case hyw3 => intro w hSw; (try dsimp only at hSw); go_simp; with_reducible rfl
          case restw3 =>
           (try simp only [Act.put, List.setIfInBounds_toArray, List.set_cons_zero, List.set_cons_succ])
           refine wpAnyH_take (i := 3) (v := ?vw4) rfl (by kernel_rfl) (by kernel_rfl) (by kernel_rfl) (fun _ _ _ h => h) (Or.inl ⟨by rfl, ?hyw4⟩) hS ?restw4
           case hyw4 => intro w hSw; (try dsimp only at hSw); go_simp; with_reducible rfl
           case restw4 =>
            (try simp only [Act.put, List.setIfInBounds_toArray, List.set_cons_zero, List.set_cons_succ])
            refine wpAnyH_take (i := 4) (v := ?vw5) rfl (by kernel_rfl) (by kernel_rfl) (by kernel_rfl) (fun _ _ _ h => h) (Or.inl ⟨by rfl, ?hyw5⟩) hS ?restw5
            case hyw5 => intro w hSw; (try dsimp only at hSw); go_simp; with_reducible rfl
            case restw5 =>
             (try simp only [Act.put, List.setIfInBounds_toArray, List.set_cons_zero, List.set_cons_succ])
             refine wpAnyH_take (i := 6) (v := ?vw6) rfl (by kernel_rfl) (by kernel_rfl) (by kernel_rfl) (fun _ _ _ h => h) (Or.inl ⟨by rfl, ?hyw6⟩) hS ?restw6
             case hyw6 => intro w hSw; (try dsimp only at hSw); go_simp; with_reducible rfl
             case restw6 =>
              (try simp only [Act.put, List.setIfInBounds_toArray, List.set_cons_zero, List.set_cons_succ])
              refine wpAnyH_take (i := 7) (v := ?vw7) rfl (by kernel_rfl) (by kernel_rfl) (by kernel_rfl) (fun _ _ _ h => h) (Or.inl ⟨by rfl, ?hyw7⟩) hS ?restw7
              case hyw7 => intro w hSw; (try dsimp only at hSw); go_simp; with_reducible rfl
              case restw7 =>
               (try simp only [Act.put, List.setIfInBounds_toArray, List.set_cons_zero, List.set_cons_succ])
               refine wpAnyH_take (i := 8) (v := ?vw8) rfl (by kernel_rfl) (by kernel_rfl) (by kernel_rfl) (fun _ _ _ h => h) (Or.inl ⟨by rfl, ?hyw8⟩) hS ?restw8
               case hyw8 => intro w hSw; (try dsimp only at hSw); go_simp; with_reducible rfl
               case restw8 =>
                (try simp only [Act.put, List.setIfInBounds_toArray, List.set_cons_zero, List.set_cons_succ])
                refine wpAnyH_take (i := 9) (v := ?vw9) rfl (by kernel_rfl) (by kernel_rfl) (by kernel_rfl) (fun _ _ _ h => h) (Or.inl ⟨by rfl, ?hyw9⟩) hS ?restw9
                case hyw9 => intro w hSw; (try dsimp only at hSw); go_simp; with_reducible rfl
                case restw9 =>
                 (try simp only [Act.put, List.setIfInBounds_toArray, List.set_cons_zero, List.set_cons_succ])
                 refine wpAnyH_take (i := 10) (v := ?vw10) rfl (by kernel_rfl) (by kernel_rfl) (by kernel_rfl) (fun _ _ _ h => h) (Or.inl ⟨by rfl, ?hyw10⟩) hS ?restw10
                 case hyw10 => intro w hSw; (try dsimp only at hSw); go_simp; with_reducible rfl
                 case restw10 =>
                  (try simp only [Act.put, List.setIfInBounds_toArray, List.set_cons_zero, List.set_cons_succ])
                  refine wpAnyH_take (i := 11) (v := ?vw11) rfl (by kernel_rfl) (by kernel_rfl) (by kernel_rfl) (fun _ _ _ h => h) (Or.inl ⟨by rfl, ?hyw11⟩) hS ?restw11
                  case hyw11 => intro w hSw; (try dsimp only at hSw); go_simp; with_reducible rfl
                  case restw11 =>
                   (try simp only [Act.put, List.setIfInBounds_toArray, List.set_cons_zero, List.set_cons_succ])
                   refine wpAnyH_take (i := 12) (v := ?vw12) rfl (by kernel_rfl) (by kernel_rfl) (by kernel_rfl) (fun _ _ _ h => h) (Or.inl ⟨by rfl, ?hyw12⟩) hS ?restw12
                   case hyw12 => intro w hSw; (try dsimp only at hSw); go_simp; with_reducible rfl
                   case restw12 =>
                    (try simp only [Act.put, List.setIfInBounds_toArray, List.set_cons_zero, List.set_cons_succ])
                    refine wpAnyH_take (i := 13) (v := ?vw13) rfl (by kernel_rfl) (by kernel_rfl) (by kernel_rfl) (fun _ _ _ h => h) (Or.inl ⟨by rfl, ?hyw13⟩) hS ?restw13
                    case hyw13 => intro w hSw; (try dsimp only at hSw); go_simp; with_reducible rfl
                    case restw13 =>
                     (try simp only [Act.put, List.setIfInBounds_toArray, List.set_cons_zero, List.set_cons_succ])
                     refine wpAnyH_take (i := 14) (v := ?vw14) rfl (by kernel_rfl) (by kernel_rfl) (by kernel_rfl) (fun _ _ _ h => h) (Or.inl ⟨by rfl, ?hyw14⟩) hS ?restw14
                     case hyw14 => intro w hSw; (try dsimp only at hSw); go_simp; with_reducible rfl
                     case restw14 =>
                      (try simp only [Act.put, List.setIfInBounds_toArray, List.set_cons_zero, List.set_cons_succ])
                      refine wpAnyH_take (i := 15) (v := ?vw15) rfl (by kernel_rfl) (by kernel_rfl) (by kernel_rfl) (fun _ _ _ h => h) (Or.inl ⟨by rfl, ?hyw15⟩) hS ?restw15
                      case hyw15 => intro w hSw; (try dsimp only at hSw); go_simp; with_reducible rfl
                      case restw15 =>
                       (try simp only [Act.put, List.setIfInBounds_toArray, List.set_cons_zero, List.set_cons_succ])
                       refine wpAnyH_take (i := 16) (v := ?vw16) rfl (by kernel_rfl) (by kernel_rfl) (by kernel_rfl) (fun _ _ _ h => h) (Or.inl ⟨by rfl, ?hyw16⟩) hS ?restw16
                       case hyw16 => intro w hSw; (try dsimp only at hSw); go_simp; with_reducible rfl
                       case restw16 =>
                        (try simp only [Act.put, List.setIfInBounds_toArray, List.set_cons_zero, List.set_cons_succ])
                        refine wpAnyH_take (i := 17) (v := ?vw17) rfl (by kernel_rfl) (by kernel_rfl) (by kernel_rfl) (fun _ _ _ h => h) (Or.inl ⟨by rfl, ?hyw17⟩) hS ?restw17
                        case hyw17 => intro w hSw; (try dsimp only at hSw); go_simp; with_reducible rfl
                        case restw17 =>
                         (try simp only [Act.put, List.setIfInBounds_toArray, List.set_cons_zero, List.set_cons_succ])
                         refine wpAnyH_take (i := 18) (v := ?vw18) rfl (by kernel_rfl) (by kernel_rfl) (by kernel_rfl) (fun _ _ _ h => h) (Or.inl ⟨by rfl, ?hyw18⟩) hS ?restw18
                         case hyw18 => intro w hSw; (try dsimp only at hSw); go_simp; with_reducible rfl
                         case restw18 =>
                          (try simp only [Act.put, List.setIfInBounds_toArray, List.set_cons_zero, List.set_cons_succ])
                          refine wpAnyH_take (i := 19) (v := ?vw19) rfl (by kernel_rfl) (by kernel_rfl) (by kernel_rfl) (fun _ _ _ h => h) (Or.inl ⟨by rfl, ?hyw19⟩) hS ?restw19
                          case hyw19 => intro w hSw; (try dsimp only at hSw); go_simp; with_reducible rfl
                          case restw19 =>
                           (try simp only [Act.put, List.setIfInBounds_toArray, List.set_cons_zero, List.set_cons_succ])
                           refine wpAnyH_take (i := 20) (v := ?vw20) rfl (by kernel_rfl) (by kernel_rfl) (by kernel_rfl) (fun _ _ _ h => h) (Or.inl ⟨by rfl, ?hyw20⟩) hS ?restw20
                           case hyw20 => intro w hSw; (try dsimp only at hSw); go_simp; with_reducible rfl
                           case restw20 =>
                            (try simp only [Act.put, List.setIfInBounds_toArray, List.set_cons_zero, List.set_cons_succ])
                            refine wpAnyH_take (i := 21) (v := ?vw21) rfl (by kernel_rfl) (by kernel_rfl) (by kernel_rfl) (fun _ _ _ h => h) (Or.inl ⟨by rfl, ?hyw21⟩) hS ?restw21
                            case hyw21 => intro w hSw; (try dsimp only at hSw); go_simp; with_reducible rfl
                            case restw21 =>
                             (try simp only [Act.put, List.setIfInBounds_toArray, List.set_cons_zero, List.set_cons_succ])
                             refine wpAnyH_take (i := 22) (v := ?vw22) rfl (by kernel_rfl) (by kernel_rfl) (by kernel_rfl) (fun _ _ _ h => h) (Or.inl ⟨by rfl, ?hyw22⟩) hS ?restw22
                             case hyw22 => intro w hSw; (try dsimp only at hSw); go_simp; with_reducible rfl
                             case restw22 =>
                              (try simp only [Act.put, List.setIfInBounds_toArray, List.set_cons_zero, List.set_cons_succ])
                              refine wpAnyH_take (i := 23) (v := ?vw23) rfl (by kernel_rfl) (by kernel_rfl) (by kernel_rfl) (fun _ _ _ h => h) (Or.inl ⟨by rfl, ?hyw23⟩) hS ?restw23
                              case hyw23 => intro w hSw; (try dsimp only at hSw); go_simp; with_reducible rfl
                              case restw23 =>
                               (try simp only [Act.put, List.setIfInBounds_toArray, List.set_cons_zero, List.set_cons_succ])
                               refine wpAnyH_take (i := 24) (v := ?vw24) rfl (by kernel_rfl) (by kernel_rfl) (by kernel_rfl) (fun _ _ _ h => h) (Or.inl ⟨by rfl, ?hyw24⟩) hS ?restw24
                               case hyw24 => intro w hSw; (try dsimp only at hSw); go_simp; with_reducible rfl
                               case restw24 =>
                                (try simp only [Act.put, List.setIfInBounds_toArray, List.set_cons_zero, List.set_cons_succ])
                                refine wpAnyH_take (i := 25) (v := ?vw25) rfl (by kernel_rfl) (by kernel_rfl) (by kernel_rfl) (fun _ _ _ h => h) (Or.inl ⟨by rfl, ?hyw25⟩) hS ?restw25
                                case hyw25 => intro w hSw; (try dsimp only at hSw); go_simp; with_reducible rfl
                                case restw25 =>
                                 (try simp only [Act.put, List.setIfInBounds_toArray, List.set_cons_zero, List.set_cons_succ])
                                 refine wpAnyH_take (i := 26) (v := ?vw26) rfl (by kernel_rfl) (by kernel_rfl) (by kernel_rfl) (fun _ _ _ h => h) (Or.inl ⟨by rfl, ?hyw26⟩) hS ?restw26
                                 case hyw26 => intro w hSw; (try dsimp only at hSw); go_simp; with_reducible rfl
                                 case restw26 =>
                                  (try simp only [Act.put, List.setIfInBounds_toArray, List.set_cons_zero, List.set_cons_succ])
                                  refine wpAnyH_take (i := 27) (v := ?vw27) rfl (by kernel_rfl) (by kernel_rfl) (by kernel_rfl) (fun _ _ _ h => h) (Or.inl ⟨by rfl, ?hyw27⟩) hS ?restw27
                                  case hyw27 => intro w hSw; (try dsimp only at hSw); go_simp; with_reducible rfl
                                  case restw27 =>
                                   (try simp only [Act.put, List.setIfInBounds_toArray, List.set_cons_zero, List.set_cons_succ])
                                   refine wpAnyH_take (i := 29) (v := ?vw28) rfl (by kernel_rfl) (by kernel_rfl) (by kernel_rfl) (fun _ _ _ h => h) (Or.inl ⟨by rfl, ?hyw28⟩) hS ?restw28
                                   case hyw28 => intro w hSw; (try dsimp only at hSw); go_simp; with_reducible rfl
                                   case restw28 =>
                                    (try simp only [Act.put, List.setIfInBounds_toArray, List.set_cons_zero, List.set_cons_succ])
                                    refine wpAnyH_take (i := 30) (v := ?vw29) rfl (by kernel_rfl) (by kernel_rfl) (by kernel_rfl) (fun _ _ _ h => h) (Or.inl ⟨by rfl, ?hyw29⟩) hS ?restw29
                                    case hyw29 => intro w hSw; (try dsimp only at hSw); go_simp; with_reducible rfl
                                    case restw29 =>
                                     (try simp only [Act.put, List.setIfInBounds_toArray, List.set_cons_zero, List.set_cons_succ])
                                     refine wpAnyH_ready (rs := [5]) (by kernel_rfl) (by simp) (AllReadyH.cons rfl (fun K hK => ?_) AllReadyH.nil)
                                     refine step_fapp1 H1.out hfn _ HBx (by rfl) (.const (.slice none 0 0)) (.tmp 62) (by rfl) (by kernel_rfl) (by kernel_rfl) (by kernel_rfl) ?_
                                     intro A2 c2 wA hoA hgA
                                     have HBA : Below W1.heap.size W1 wA := bnext HBx hgA
                                     refine hK.out _ _ (KS.out _ (HBA)) (fun hS => ?_)
                                     (try simp only [Act.put, List.setIfInBounds_toArray, List.set_cons_zero, List.set_cons_succ])
                                     refine wpAnyH_ready (rs := [28]) (by kernel_rfl) (by simp) (AllReadyH.cons rfl (fun K hK => ?_) AllReadyH.nil)
                                     go_simp
                                     go_at_call 39
                                     refine (C1.out _ HBA).mono ?_
                                     rintro e wS ⟨pA, pc, rfl, hpx, hnew, hbS⟩
                                     have HBS : Below W1.heap.size W1 wS := bnext HBA hbS
                                     refine hK.out _ _ (KS.out _ (HBS)) (fun hS => ?_)
                                     (try simp only [Act.put, List.setIfInBounds_toArray, List.set_cons_zero, List.set_cons_succ])
                                     refine wpAnyH_take (i := 31) (v := ?vw30) rfl (by kernel_rfl) (by kernel_rfl) (by kernel_rfl) (fun _ _ _ h => h) (Or.inl ⟨by rfl, ?hyw30⟩) hS ?restw30
                                     case hyw30 => intro w hSw; (try dsimp only at hSw); go_simp; with_reducible rfl
                                     case restw30 =>
                                      (try simp only [Act.put, List.setIfInBounds_toArray, List.set_cons_zero, List.set_cons_succ])
                                      refine wpAnyH_ready (rs := [32]) (by kernel_rfl) (by simp) (AllReadyH.cons rfl (fun K hK => ?_) AllReadyH.nil)
                                      go_simp
                                      refine hK.out _ _ (KS.out _ (HBS.alloc HBS.size (.cells #[.int .i64 (seenP s.objs (headW l) (headH l) s.back).w, .int .i64 (seenP s.objs (headW l) (headH l) s.back).h, .slice pA (seenP s.objs (headW l) (headH l) s.back).p.length pc, .int .i64 a] 60))) (fun hS => ?_)
                                      (try simp only [Act.put, List.setIfInBounds_toArray, List.set_cons_zero, List.set_cons_succ])
                                      refine wpAnyH_ready (rs := [33]) (by kernel_rfl) (by simp) (AllReadyH.cons rfl (fun K hK => ?_) AllReadyH.nil)
                                      have hoB := own_keep (own_keep hoA hbS) ((Below.refl _ _).alloc (Nat.le_refl _) (.cells #[.int .i64 (seenP s.objs (headW l) (headH l) s.back).w, .int .i64 (seenP s.objs (headW l) (headH l) s.back).h, .slice pA (seenP s.objs (headW l) (headH l) s.back).p.length pc, .int .i64 a] 60))
                                      refine step_fapp2 hfn ((HBS.alloc HBS.size (.cells #[.int .i64 (seenP s.objs (headW l) (headH l) s.back).w, .int .i64 (seenP s.objs (headW l) (headH l) s.back).h, .slice pA (seenP s.objs (headW l) (headH l) s.back).p.length pc, .int .i64 a] 60)).size) hoB (heap_alloc_new wS _) rfl rfl rfl rfl (by rfl) (.tmp 63) (.tmp 90) (by rfl) (by kernel_rfl) (by kernel_rfl) (by kernel_rfl) ?_
                                      intro A3 c3 w9 ho3 hg3
                                      have HB9 : Below W1.heap.size W1 w9 := below_own (HBS.alloc HBS.size (.cells #[.int .i64 (seenP s.objs (headW l) (headH l) s.back).w, .int .i64 (seenP s.objs (headW l) (headH l) s.back).h, .slice pA (seenP s.objs (headW l) (headH l) s.back).p.length pc, .int .i64 a] 60)) hg3 ((HBS.alloc HBS.size (.cells #[.int .i64 (seenP s.objs (headW l) (headH l) s.back).w, .int .i64 (seenP s.objs (headW l) (headH l) s.back).h, .slice pA (seenP s.objs (headW l) (headH l) s.back).p.length pc, .int .i64 a] 60)).size) (fun b e => (hoB.lt b e).1)
                                      refine hK.out _ _ (KS.out _ (HB9)) (fun hS => ?_)
                                      (try simp only [Act.put, List.setIfInBounds_toArray, List.set_cons_zero, List.set_cons_succ])
                                      refine wpAnyH_take (i := 34) (v := ?vw31) rfl (by kernel_rfl) (by kernel_rfl) (by kernel_rfl) (fun _ _ _ h => h) (Or.inl ⟨by rfl, ?hyw31⟩) hS ?restw31
                                      case hyw31 => intro w hSw; (try dsimp only at hSw); go_simp; with_reducible rfl
                                      case restw31 =>
                                       (try simp only [Act.put, List.setIfInBounds_toArray, List.set_cons_zero, List.set_cons_succ])
                                       refine wpAnyH_take (i := 35) (v := ?vw32) rfl (by kernel_rfl) (by kernel_rfl) (by kernel_rfl) (fun _ _ _ h => h) (Or.inl ⟨by rfl, ?hyw32⟩) hS ?restw32
                                       case hyw32 => intro w hSw; (try dsimp only at hSw); go_simp; with_reducible rfl
                                       case restw32 =>
                                        (try simp only [Act.put, List.setIfInBounds_toArray, List.set_cons_zero, List.set_cons_succ])
                                        refine wpAnyH_done (by kernel_rfl) ?_ _
                                        unfold LastQ
                                        have hm9 := H1.out.below HB9
                                        have q7 := hm9.cell.2.2.2.2.2.2.2
                                        have f7 := opblk_free hm9.box 7
                                        have hpx9 : Pixs w9 pA (seenP s.objs (headW l) (headH l) s.back).p.length (seenP s.objs (headW l) (headH l) s.back).p := by
                                          refine ⟨hpx.1, (hpx.2.below ((Below.refl _ _).alloc (Nat.le_refl _) _)).grown hg3 (fun hn a ha e => ?_)⟩
                                          have h1 := hnew a ha
                                          have h2 := row_block hpx.2 hn ha
                                          have h3 := (hoA.lt _ e).2
                                          have h4 := HBA.size
                                          omega
                                        have Hst := hid (HD.out w9 A3 c3 HB9 hpx9 (fun q e => by have := hnew q e; have := HBA.size; omega) ho3)
                                        have HK9 := hid (HK0.out.trans (KeepM.of_below (Z := fun b => b = y) HB9) (fun _ hb => Or.inl hb))
                                        clear hm9 ho3 hg3 hoB hoA hgA HBA HBS hpx hpx9 hnew hS KS HD C1 hK K
                                        go_upto_region 31 with fail
                                        obtain ⟨W3, hW3⟩ : ∃ W3, W3 = w9.setCell ⟨y, 7, none⟩ (.slice A3 (r.fn + 1) c3) := ⟨_, rfl⟩
                                        have HK4 := hid (show KeepM (fun b => b = y) W W3 by rw [hW3]; exact HK9.out.setCell rfl _ _)
                                        have H3 : Hid (RefW l { s with frames := s.frames ++ [⟨(seenP s.objs (headW l) (headH l) s.back), a⟩] } F y { r with fA := A3, fn := r.fn + 1, fc := c3, frs := r.frs ++ [⟨⟨(seenP s.objs (headW l) (headH l) s.back), a⟩, pA, (seenP s.objs (headW l) (headH l) s.back).p.length, pc⟩] } W3) := hid (by rw [hW3]; exact Hst.out)
                                        rw [← hW3]
                                        clear hW3 Hst q7 f7
                                        obtain ⟨z1, zf⟩ : _ ∧ _ := ⟨H3.out.cell.2.1, opblk_free H3.out.box 1⟩
                                        have hw2 := one_wrap (n := _) HN.out
                                        have HT := hid (ref_tail H3.out HK4.out)
                                        go_wp2_with fail
                                        go_ret
                                        rw [HV.out]
                                        exact ⟨rfl, HT.out.1, HT.out.2⟩
    · have hab := loop_bd Hof.out rfl
      have HN := hid (show s.at_ ≤ 1000 by omega)
      by_cases ha : a = 0
      · have HV := hid (show stepP l s = ({ { s with at_ := endP l s.at_ } with at_ := endP l s.at_ + 1 }, 0) by unfold stepP stepO; rw [He.out]; simp [ha])
        have HE := hid (endP_spec HF.out HK.out.at_ (by rw [He.out]))
        have hrn : r.ln ≤ 1000 := by have h1 := H1.out.rest.ops.ops.1; have h2 := congrArg List.length H1.out.rest.opsd; rw [datO_len] at h2; omega
        have hlr : s.at_ < r.ln := by omega
        have CE := hid (fun W2 (hb : Below W1.heap.size W1 W2) => rendof_any r.lA r.ln r.lc r.ols W2 (H1.out.rest.ops.ops.below hb) hrn s.at_ hlr (by rw [H1.out.rest.opsd, He.out]))
        rw [H1.out.rest.opsd] at CE
        have KS := hid (fun W2 (hb : Below W1.heap.size W1 W2) => (⟨(H1.out.below hb).cell.1, (H1.out.below hb).cell.2.1⟩ : W2.cell? ⟨y, 0, none⟩ = some (.slice r.lA r.ln r.lc) ∧ W2.cell? ⟨y, 1, none⟩ = some (.int .i64 (s.at_ : Int))))
        obtain ⟨EP, hEP⟩ : ∃ EP, endP l s.at_ = EP := ⟨_, rfl⟩
        rw [hEP] at CE HV HE
        clear hEP
        go_upto_region 18 with fail
        refine wp_region_held_last (fun W => W.cell? ⟨y, 0, none⟩ = some (.slice r.lA r.ln r.lc) ∧ W.cell? ⟨y, 1, none⟩ = some (.int .i64 (s.at_ : Int))) 12 _ rfl (by kernel_rfl) (by kernel_rfl) (KS.out _ (Below.refl _ _).drew) (fun hS => ?_)
        simp only [List.take_succ_cons, List.take_zero]
        clear c0 c1 c2 c3 c4 c5 c6 c7 c8
        refine wpAnyH_take (i := 0) (v := ?vb17) rfl (by kernel_rfl) (by kernel_rfl) (by kernel_rfl) (fun _ _ _ h => h) (Or.inl ⟨by rfl, ?hyb17⟩) hS ?restb17
        case hyb17 => intro w hSw; (try dsimp only at hSw); go_simp; with_reducible rfl
        case restb17 =>
         (try simp only [Act.put, List.setIfInBounds_toArray, List.set_cons_zero, List.set_cons_succ])
         refine wpAnyH_take (i := 1) (v := ?vb18) rfl (by kernel_rfl) (by kernel_rfl) (by kernel_rfl) (fun _ _ _ h => h) (Or.inl ⟨by rfl, ?hyb18⟩) hS ?restb18
         case hyb18 => intro w hSw; (try dsimp only at hSw); go_simp; with_reducible rfl
         case restb18 =>
          (try simp only [Act.put, List.setIfInBounds_toArray, List.set_cons_zero, List.set_cons_succ])
          refine wpAnyH_take (i := 2) (v := ?vb19) rfl (by kernel_rfl) (by kernel_rfl) (by kernel_rfl) (fun _ _ _ h => h) (Or.inl ⟨by rfl, ?hyb19⟩) hS ?restb19
          case hyb19 => intro w hSw; (try dsimp only at hSw); go_simp; with_reducible rfl
          case restb19 =>
           (try simp only [Act.put, List.setIfInBounds_toArray, List.set_cons_zero, List.set_cons_succ])
           refine wpAnyH_take (i := 3) (v := ?vb20) rfl (by kernel_rfl) (by kernel_rfl) (by kernel_rfl) (fun _ _ _ h => h) (Or.inl ⟨by rfl, ?hyb20⟩) hS ?restb20
           case hyb20 => intro w hSw; (try dsimp only at hSw); go_simp; with_reducible rfl
           case restb20 =>
            (try simp only [Act.put, List.setIfInBounds_toArray, List.set_cons_zero, List.set_cons_succ])
            refine wpAnyH_take (i := 4) (v := ?vb21) rfl (by kernel_rfl) (by kernel_rfl) (by kernel_rfl) (fun _ _ _ h => h) (Or.inl ⟨by rfl, ?hyb21⟩) hS ?restb21
            case hyb21 => intro w hSw; (try dsimp only at hSw); go_simp; with_reducible rfl
            case restb21 =>
             (try simp only [Act.put, List.setIfInBounds_toArray, List.set_cons_zero, List.set_cons_succ])
             refine wpAnyH_take (i := 5) (v := ?vb22) rfl (by kernel_rfl) (by kernel_rfl) (by kernel_rfl) (fun _ _ _ h => h) (Or.inl ⟨by rfl, ?hyb22⟩) hS ?restb22
             case hyb22 => intro w hSw; (try dsimp only at hSw); go_simp; with_reducible rfl
             case restb22 =>
              (try simp only [Act.put, List.setIfInBounds_toArray, List.set_cons_zero, List.set_cons_succ])
              refine wpAnyH_take (i := 6) (v := ?vb23) rfl (by kernel_rfl) (by kernel_rfl) (by kernel_rfl) (fun _ _ _ h => h) (Or.inl ⟨by rfl, ?hyb23⟩) hS ?restb23
              case hyb23 => intro w hSw; (try dsimp only at hSw); go_simp; with_reducible rfl
              case restb23 =>
               (try simp only [Act.put, List.setIfInBounds_toArray, List.set_cons_zero, List.set_cons_succ])
               refine wpAnyH_take (i := 7) (v := ?vb24) rfl (by kernel_rfl) (by kernel_rfl) (by kernel_rfl) (fun _ _ _ h => h) (Or.inl ⟨by rfl, ?hyb24⟩) hS ?restb24
               case hyb24 => intro w hSw; (try dsimp only at hSw); go_simp; with_reducible rfl
               case restb24 =>
                (try simp only [Act.put, List.setIfInBounds_toArray, List.set_cons_zero, List.set_cons_succ])
                refine wpAnyH_take (i := 8) (v := ?vb25) rfl (by kernel_rfl) (by kernel_rfl) (by kernel_rfl) (fun _ _ _ h => h) (Or.inl ⟨by rfl, ?hyb25⟩) hS ?restb25
                case hyb25 => intro w hSw; (try dsimp only at hSw); go_simp; with_reducible rfl
                case restb25 =>
                 (try simp only [Act.put, List.setIfInBounds_toArray, List.set_cons_zero, List.set_cons_succ])
                 refine wpAnyH_ready (rs := [9]) (by kernel_rfl) (by simp) (AllReadyH.cons rfl (fun K hK => ?_) AllReadyH.nil)
                 go_simp
                 go_at_call 40
                 refine (CE.out _ (Below.refl _ _).drew).mono ?_
                 rintro e w3 ⟨rfl, hbw⟩
                 have HB3 : Below W1.heap.size W1 w3 := bnext (Below.refl _ _).drew hbw
                 refine hK.out _ _ (KS.out _ (HB3)) (fun hS => ?_)
                 (try simp only [Act.put, List.setIfInBounds_toArray, List.set_cons_zero, List.set_cons_succ])
                 refine wpAnyH_take (i := 10) (v := ?vb26) rfl (by kernel_rfl) (by kernel_rfl) (by kernel_rfl) (fun _ _ _ h => h) (Or.inl ⟨by rfl, ?hyb26⟩) hS ?restb26
                 case hyb26 => intro w hSw; (try dsimp only at hSw); go_simp; with_reducible rfl
                 case restb26 =>
                  (try simp only [Act.put, List.setIfInBounds_toArray, List.set_cons_zero, List.set_cons_succ])
                  refine wpAnyH_take (i := 11) (v := ?vb27) rfl (by kernel_rfl) (by kernel_rfl) (by kernel_rfl) (fun _ _ _ h => h) (Or.inl ⟨by rfl, ?hyb27⟩) hS ?restb27
                  case hyb27 => intro w hSw; (try dsimp only at hSw); go_simp; with_reducible rfl
                  case restb27 =>
                   (try simp only [Act.put, List.setIfInBounds_toArray, List.set_cons_zero, List.set_cons_succ])
                   refine wpAnyH_done (by kernel_rfl) ?_ _
                   unfold LastQ
                   have hm3 := H1.out.below HB3
                   have HK3 := hid (HK0.out.trans (KeepM.of_below (Z := fun b => b = y) HB3) (fun _ hb => Or.inl hb))
                   have q1 := hm3.cell.2.1
                   have f1 := opblk_free hm3.box 1
                   have Hst := hid (RefW.store hm3.box hm3.flt hm3.fy (hm3.rest.same (s' := { s with at_ := EP }) rfl rfl rfl rfl) 1 (.int .i64 (EP : Int)) rfl)
                   have HE1000 := hid (show EP ≤ 1000 by have := HE.out.len; omega)
                   clear hm3 HE KS CE hbw HB3 hS hK K
                   go_upto_region 31 with fail
                   obtain ⟨W3, hW3⟩ : ∃ W3, W3 = w3.setCell ⟨y, 1, none⟩ (.int .i64 (EP : Int)) := ⟨_, rfl⟩
                   have HK4 := hid (show KeepM (fun b => b = y) W W3 by rw [hW3]; exact HK3.out.setCell rfl _ _)
                   have H3 : Hid (RefW l { s with at_ := EP } F y r W3) := hid (by rw [hW3]; exact Hst.out)
                   rw [← hW3]
                   clear hW3 Hst q1 f1
                   obtain ⟨z1, zf⟩ : _ ∧ _ := ⟨H3.out.cell.2.1, opblk_free H3.out.box 1⟩
                   have hw2 := one_wrap (n := _) HE1000.out
                   have HT := hid (ref_tail H3.out HK4.out)
                   go_wp2_with fail
                   go_ret
                   rw [HV.out]
                   exact ⟨rfl, HT.out.1, HT.out.2⟩
      · have HV := hid (show stepP l s = ({ { s with turns := s.turns ++ [(s.at_, a.toNat)] } with at_ := s.at_ + 1 }, 0) by unfold stepP stepO; rw [He.out]; simp [ha])
        have hz : (a == 0) = false := by simp [ha]
        have hfew := turns_few HF.out HK.out
        have htn : r.tn ≤ 100 := by have := H1.out.rest.turnsn; omega
        have KS := hid (fun W2 (hb : Below W1.heap.size W1 W2) => (⟨(H1.out.below hb).cell.2.1, (H1.out.below hb).cell.2.2.1, (OpBoxAt.cells (blk_keep HO1.out hb)).2.2.1⟩ : W2.cell? ⟨y, 1, none⟩ = some (.int .i64 (s.at_ : Int)) ∧ W2.cell? ⟨y, 2, none⟩ = some (.slice r.tA r.tn r.tc) ∧ W2.cell? ⟨go, 2, none⟩ = some (.int .i64 a)))
        have HD := hid (fun w9 A c (hb : Below W1.heap.size W1 w9) (ho : w9.ownsRow W1.heap.size 80 2 (.slice A (r.tn + 1) c) (r.tn + 1) (s.turns.flatMap turnC ++ [.int .i64 (s.at_ : Int), .int .i64 a])) => (by
          have hcells : (s.turns ++ [(s.at_, a.toNat)]).flatMap turnC = s.turns.flatMap turnC ++ [.int .i64 (s.at_ : Int), .int .i64 a] := by
            rw [List.flatMap_append]; simp [turnC, Int.toNat_of_nonneg hab.1]
          exact ref_turns H1.out hb (ts := s.turns ++ [(s.at_, a.toNat)]) (by rw [hcells]; exact ho) (by have := H1.out.rest.turnsn; simp; omega) :
          RefW l { s with turns := s.turns ++ [(s.at_, a.toNat)] } F y { r with tA := A, tn := r.tn + 1, tc := c } (w9.setCell ⟨y, 2, none⟩ (.slice A (r.tn + 1) c))))
        go_upto_region 19 with fail
        refine wp_region_held_last (fun W => W.cell? ⟨y, 1, none⟩ = some (.int .i64 (s.at_ : Int)) ∧ W.cell? ⟨y, 2, none⟩ = some (.slice r.tA r.tn r.tc) ∧ W.cell? ⟨go, 2, none⟩ = some (.int .i64 a)) 17 _ rfl (by kernel_rfl) (by kernel_rfl) (KS.out _ (Below.refl _ _).drew) (fun hS => ?_)
        simp only [List.take_succ_cons, List.take_zero]
        have HBx : Below W1.heap.size W1 W1.drew := (Below.refl _ _).drew
        clear c0 c1 c2 c3 c4 c5 c6 c7 c8
        refine wpAnyH_take (i := 0) (v := ?va1) rfl (by kernel_rfl) (by kernel_rfl) (by kernel_rfl) (fun _ _ _ h => h) (Or.inl ⟨by rfl, ?hya1⟩) hS ?resta1
        case hya1 => intro w hSw; (try dsimp only at hSw); go_simp; with_reducible rfl
        case resta1 =>
         (try simp only [Act.put, List.setIfInBounds_toArray, List.set_cons_zero, List.set_cons_succ])
         refine wpAnyH_take (i := 1) (v := ?va2) rfl (by kernel_rfl) (by kernel_rfl) (by kernel_rfl) (fun _ _ _ h => h) (Or.inl ⟨by rfl, ?hya2⟩) hS ?resta2
         case hya2 => intro w hSw; (try dsimp only at hSw); go_simp; with_reducible rfl
         case resta2 =>
          (try simp only [Act.put, List.setIfInBounds_toArray, List.set_cons_zero, List.set_cons_succ])
          refine wpAnyH_take (i := 2) (v := ?va3) rfl (by kernel_rfl) (by kernel_rfl) (by kernel_rfl) (fun _ _ _ h => h) (Or.inl ⟨by rfl, ?hya3⟩) hS ?resta3
          case hya3 => intro w hSw; (try dsimp only at hSw); go_simp; with_reducible rfl
          case resta3 =>
           (try simp only [Act.put, List.setIfInBounds_toArray, List.set_cons_zero, List.set_cons_succ])
           refine wpAnyH_take (i := 3) (v := ?va4) rfl (by kernel_rfl) (by kernel_rfl) (by kernel_rfl) (fun _ _ _ h => h) (Or.inl ⟨by rfl, ?hya4⟩) hS ?resta4
           case hya4 => intro w hSw; (try dsimp only at hSw); go_simp; with_reducible rfl
           case resta4 =>
            (try simp only [Act.put, List.setIfInBounds_toArray, List.set_cons_zero, List.set_cons_succ])
            refine wpAnyH_take (i := 4) (v := ?va5) rfl (by kernel_rfl) (by kernel_rfl) (by kernel_rfl) (fun _ _ _ h => h) (Or.inl ⟨by rfl, ?hya5⟩) hS ?resta5
            case hya5 => intro w hSw; (try dsimp only at hSw); go_simp; with_reducible rfl
            case resta5 =>
             (try simp only [Act.put, List.setIfInBounds_toArray, List.set_cons_zero, List.set_cons_succ])
             refine wpAnyH_take (i := 6) (v := ?va6) rfl (by kernel_rfl) (by kernel_rfl) (by kernel_rfl) (fun _ _ _ h => h) (Or.inl ⟨by rfl, ?hya6⟩) hS ?resta6
             case hya6 => intro w hSw; (try dsimp only at hSw); go_simp; with_reducible rfl
             case resta6 =>
              (try simp only [Act.put, List.setIfInBounds_toArray, List.set_cons_zero, List.set_cons_succ])
              refine wpAnyH_take (i := 7) (v := ?va7) rfl (by kernel_rfl) (by kernel_rfl) (by kernel_rfl) (fun _ _ _ h => h) (Or.inl ⟨by rfl, ?hya7⟩) hS ?resta7
              case hya7 => intro w hSw; (try dsimp only at hSw); go_simp; with_reducible rfl
              case resta7 =>
               (try simp only [Act.put, List.setIfInBounds_toArray, List.set_cons_zero, List.set_cons_succ])
               refine wpAnyH_take (i := 8) (v := ?va8) rfl (by kernel_rfl) (by kernel_rfl) (by kernel_rfl) (fun _ _ _ h => h) (Or.inl ⟨by rfl, ?hya8⟩) hS ?resta8
               case hya8 => intro w hSw; (try dsimp only at hSw); go_simp; with_reducible rfl
               case resta8 =>
                (try simp only [Act.put, List.setIfInBounds_toArray, List.set_cons_zero, List.set_cons_succ])
                refine wpAnyH_take (i := 9) (v := ?va9) rfl (by kernel_rfl) (by kernel_rfl) (by kernel_rfl) (fun _ _ _ h => h) (Or.inl ⟨by rfl, ?hya9⟩) hS ?resta9
                case hya9 => intro w hSw; (try dsimp only at hSw); go_simp; with_reducible rfl
                case resta9 =>
                 (try simp only [Act.put, List.setIfInBounds_toArray, List.set_cons_zero, List.set_cons_succ])
                 refine wpAnyH_take (i := 10) (v := ?va10) rfl (by kernel_rfl) (by kernel_rfl) (by kernel_rfl) (fun _ _ _ h => h) (Or.inl ⟨by rfl, ?hya10⟩) hS ?resta10
                 case hya10 => intro w hSw; (try dsimp only at hSw); go_simp; with_reducible rfl
                 case resta10 =>
                  (try simp only [Act.put, List.setIfInBounds_toArray, List.set_cons_zero, List.set_cons_succ])
                  refine wpAnyH_take (i := 11) (v := ?va11) rfl (by kernel_rfl) (by kernel_rfl) (by kernel_rfl) (fun _ _ _ h => h) (Or.inl ⟨by rfl, ?hya11⟩) hS ?resta11
                  case hya11 => intro w hSw; (try dsimp only at hSw); go_simp; with_reducible rfl
                  case resta11 =>
                   (try simp only [Act.put, List.setIfInBounds_toArray, List.set_cons_zero, List.set_cons_succ])
                   refine wpAnyH_take (i := 12) (v := ?va12) rfl (by kernel_rfl) (by kernel_rfl) (by kernel_rfl) (fun _ _ _ h => h) (Or.inl ⟨by rfl, ?hya12⟩) hS ?resta12
                   case hya12 => intro w hSw; (try dsimp only at hSw); go_simp; with_reducible rfl
                   case resta12 =>
                    (try simp only [Act.put, List.setIfInBounds_toArray, List.set_cons_zero, List.set_cons_succ])
                    refine wpAnyH_ready (rs := [5, 13]) (by kernel_rfl) (by simp) (AllReadyH.cons rfl (fun K hK => ?_) (AllReadyH.cons rfl (fun K hK => ?_) AllReadyH.nil))
                    · skip
                      refine step_app1 H1.out htn _ (HBx) (by rfl) (.const (.slice none 0 0)) (.tmp 115) (by rfl) (by kernel_rfl) (by kernel_rfl) (by kernel_rfl) ?_
                      intro A2 c2 wA hoA hgA
                      have HBA : Below W1.heap.size W1 wA := bnext (HBx) hgA
                      refine hK.out _ _ (KS.out _ (HBA)) (fun hS => ?_)
                      (try simp only [Act.put, List.setIfInBounds_toArray, List.set_cons_zero, List.set_cons_succ])
                      refine wpAnyH_ready (rs := [13]) (by kernel_rfl) (by simp) (AllReadyH.cons rfl (fun K hK => ?_) AllReadyH.nil)
                      go_simp
                      refine hK.out _ _ (KS.out _ (HBA.alloc HBA.size (.cells #[.int .i64 (s.at_ : Int), .int .i64 a] 80))) (fun hS => ?_)
                      (try simp only [Act.put, List.setIfInBounds_toArray, List.set_cons_zero, List.set_cons_succ])
                      refine wpAnyH_ready (rs := [14]) (by kernel_rfl) (by simp) (AllReadyH.cons rfl (fun K hK => ?_) AllReadyH.nil)
                      have hoB := own_keep hoA ((Below.refl _ _).alloc (Nat.le_refl _) (.cells #[.int .i64 (s.at_ : Int), .int .i64 a] 80))
                      refine step_app2 htn ((HBA.alloc HBA.size (.cells #[.int .i64 (s.at_ : Int), .int .i64 a] 80)).size) hoB (heap_alloc_new wA _) rfl rfl (by rfl) (.tmp 116) (.tmp 124) (by rfl) (by kernel_rfl) (by kernel_rfl) (by kernel_rfl) ?_
                      intro A3 c3 w9 ho3 hg3
                      have HB9 : Below W1.heap.size W1 w9 := below_own (HBA.alloc HBA.size (.cells #[.int .i64 (s.at_ : Int), .int .i64 a] 80)) hg3 ((HBA.alloc HBA.size (.cells #[.int .i64 (s.at_ : Int), .int .i64 a] 80)).size) (fun b e => (hoB.lt b e).1)
                      refine hK.out _ _ (KS.out _ (HB9)) (fun hS => ?_)
                      (try simp only [Act.put, List.setIfInBounds_toArray, List.set_cons_zero, List.set_cons_succ])
                      refine wpAnyH_take (i := 15) (v := ?va13) rfl (by kernel_rfl) (by kernel_rfl) (by kernel_rfl) (fun _ _ _ h => h) (Or.inl ⟨by rfl, ?hya13⟩) hS ?resta13
                      case hya13 => intro w hSw; (try dsimp only at hSw); go_simp; with_reducible rfl
                      case resta13 =>
                       (try simp only [Act.put, List.setIfInBounds_toArray, List.set_cons_zero, List.set_cons_succ])
                       refine wpAnyH_take (i := 16) (v := ?va14) rfl (by kernel_rfl) (by kernel_rfl) (by kernel_rfl) (fun _ _ _ h => h) (Or.inl ⟨by rfl, ?hya14⟩) hS ?resta14
                       case hya14 => intro w hSw; (try dsimp only at hSw); go_simp; with_reducible rfl
                       case resta14 =>
                        (try simp only [Act.put, List.setIfInBounds_toArray, List.set_cons_zero, List.set_cons_succ])
                        refine wpAnyH_done (by kernel_rfl) ?_ _
                        unfold LastQ
                        have hm9 := H1.out.below HB9
                        have q2 := hm9.cell.2.2.1
                        have f2 := opblk_free hm9.box 2
                        have Hst := hid (HD.out w9 A3 c3 HB9 ho3)
                        have HK9 := hid (HK0.out.trans (KeepM.of_below (Z := fun b => b = y) HB9) (fun _ hb => Or.inl hb))
                        clear hm9 ho3 hg3 hoB hoA hgA HBA hS KS HD hK K
                        go_upto_region 31 with fail
                        obtain ⟨W3, hW3⟩ : ∃ W3, W3 = w9.setCell ⟨y, 2, none⟩ (.slice A3 (r.tn + 1) c3) := ⟨_, rfl⟩
                        have HK4 := hid (show KeepM (fun b => b = y) W W3 by rw [hW3]; exact HK9.out.setCell rfl _ _)
                        have H3 : Hid (RefW l { s with turns := s.turns ++ [(s.at_, a.toNat)] } F y { r with tA := A3, tn := r.tn + 1, tc := c3 } W3) := hid (by rw [hW3]; exact Hst.out)
                        rw [← hW3]
                        clear hW3 Hst q2 f2
                        obtain ⟨z1, zf⟩ : _ ∧ _ := ⟨H3.out.cell.2.1, opblk_free H3.out.box 1⟩
                        have hw2 := one_wrap (n := _) HN.out
                        have HT := hid (ref_tail H3.out HK4.out)
                        go_wp2_with fail
                        go_ret
                        rw [HV.out]
                        exact ⟨rfl, HT.out.1, HT.out.2⟩
                    · go_simp
                      have HBy : Below W1.heap.size W1 (W1.drew.alloc (.cells #[.int .i64 (s.at_ : Int), .int .i64 a] 80)) := HBx.alloc HBx.size _
                      refine hK.out _ _ (KS.out _ (HBy)) (fun hS => ?_)
                      (try simp only [Act.put, List.setIfInBounds_toArray, List.set_cons_zero, List.set_cons_succ])
                      refine wpAnyH_ready (rs := [5]) (by kernel_rfl) (by simp) (AllReadyH.cons rfl (fun K hK => ?_) AllReadyH.nil)
                      refine step_app1 H1.out htn _ (HBy) (by rfl) (.const (.slice none 0 0)) (.tmp 115) (by rfl) (by kernel_rfl) (by kernel_rfl) (by kernel_rfl) ?_
                      intro A2 c2 wA hoA hgA
                      have HBA : Below W1.heap.size W1 wA := bnext (HBy) hgA
                      refine hK.out _ _ (KS.out _ (HBA)) (fun hS => ?_)
                      (try simp only [Act.put, List.setIfInBounds_toArray, List.set_cons_zero, List.set_cons_succ])
                      refine wpAnyH_ready (rs := [14]) (by kernel_rfl) (by simp) (AllReadyH.cons rfl (fun K hK => ?_) AllReadyH.nil)
                      have hoB := own_keep hoA (Below.refl _ _)
                      refine step_app2 htn (HBA.size) hoB (blk_keep (heap_alloc_new W1.drew _) hgA) rfl rfl (by rfl) (.tmp 116) (.tmp 124) (by rfl) (by kernel_rfl) (by kernel_rfl) (by kernel_rfl) ?_
                      intro A3 c3 w9 ho3 hg3
                      have HB9 : Below W1.heap.size W1 w9 := below_own (HBA) hg3 (HBA.size) (fun b e => (hoB.lt b e).1)
                      refine hK.out _ _ (KS.out _ (HB9)) (fun hS => ?_)
                      (try simp only [Act.put, List.setIfInBounds_toArray, List.set_cons_zero, List.set_cons_succ])
                      refine wpAnyH_take (i := 15) (v := ?va15) rfl (by kernel_rfl) (by kernel_rfl) (by kernel_rfl) (fun _ _ _ h => h) (Or.inl ⟨by rfl, ?hya15⟩) hS ?resta15
                      case hya15 => intro w hSw; (try dsimp only at hSw); go_simp; with_reducible rfl
                      case resta15 =>
                       (try simp only [Act.put, List.setIfInBounds_toArray, List.set_cons_zero, List.set_cons_succ])
                       refine wpAnyH_take (i := 16) (v := ?va16) rfl (by kernel_rfl) (by kernel_rfl) (by kernel_rfl) (fun _ _ _ h => h) (Or.inl ⟨by rfl, ?hya16⟩) hS ?resta16
                       case hya16 => intro w hSw; (try dsimp only at hSw); go_simp; with_reducible rfl
                       case resta16 =>
                        (try simp only [Act.put, List.setIfInBounds_toArray, List.set_cons_zero, List.set_cons_succ])
                        refine wpAnyH_done (by kernel_rfl) ?_ _
                        unfold LastQ
                        have hm9 := H1.out.below HB9
                        have q2 := hm9.cell.2.2.1
                        have f2 := opblk_free hm9.box 2
                        have Hst := hid (HD.out w9 A3 c3 HB9 ho3)
                        have HK9 := hid (HK0.out.trans (KeepM.of_below (Z := fun b => b = y) HB9) (fun _ hb => Or.inl hb))
                        clear hm9 ho3 hg3 hoB hoA hgA HBA hS KS HD hK K
                        go_upto_region 31 with fail
                        obtain ⟨W3, hW3⟩ : ∃ W3, W3 = w9.setCell ⟨y, 2, none⟩ (.slice A3 (r.tn + 1) c3) := ⟨_, rfl⟩
                        have HK4 := hid (show KeepM (fun b => b = y) W W3 by rw [hW3]; exact HK9.out.setCell rfl _ _)
                        have H3 : Hid (RefW l { s with turns := s.turns ++ [(s.at_, a.toNat)] } F y { r with tA := A3, tn := r.tn + 1, tc := c3 } W3) := hid (by rw [hW3]; exact Hst.out)
                        rw [← hW3]
                        clear hW3 Hst q2 f2
                        obtain ⟨z1, zf⟩ : _ ∧ _ := ⟨H3.out.cell.2.1, opblk_free H3.out.box 1⟩
                        have hw2 := one_wrap (n := _) HN.out
                        have HT := hid (ref_tail H3.out HK4.out)
                        go_wp2_with fail
                        go_ret
                        rw [HV.out]
                        exact ⟨rfl, HT.out.1, HT.out.2⟩
    · obtain ⟨q, i0, n0, hr, -, hi0, -, hn1, hn9⟩ := turn_last HF.out HK.out (by rw [He.out])
      have hfew := turns_few HF.out HK.out
      have hql : q.length ≤ 100 := by rw [hr] at hfew; simp at hfew; omega
      obtain ⟨M, hM⟩ : ∃ M, q.length = M := ⟨_, rfl⟩
      have HN := hid (show s.at_ ≤ 1000 by omega)
      have HN2 := hid (show i0 ≤ 1000 by omega)
      have HV := hid (show stepP l s = ({ nextS s q i0 n0 with at_ := (nextS s q i0 n0).at_ + 1 }, 0) by unfold stepP stepO; rw [He.out]; simp only; rw [turnM_eq hr]; unfold nextS; by_cases ha : n0 ≤ 1 <;> simp [ha])
      have htn : r.tn = M + 1 := by have := H1.out.rest.turnsn; rw [hr] at this; simp at this; omega
      have hrow := H1.out.rest.turns
      have htc := H1.out.rest.turnsc
      rw [hr, htn] at hrow
      rw [htn] at htc
      obtain ⟨tb, toff, htA, htb, htcell⟩ := hrow.2 (by omega)
      have hk : (q ++ [(i0, n0)])[M]? = some (i0, n0) := by rw [← hM]; simp
      have t0 : W1.cell? ⟨tb, toff + M * 2, none⟩ = some (.int .i64 (i0 : Int)) := by
        have := htcell (M * 2 + 0) _ ((flat_at (enc := turnC) (size := 2) (fun _ => rfl) _ M 0 _ hk (by omega)).trans rfl)
        simpa using this
      have t1 : W1.cell? ⟨tb, toff + M * 2 + 1, none⟩ = some (.int .i64 (n0 : Int)) := by
        have := htcell (M * 2 + 1) _ ((flat_at (enc := turnC) (size := 2) (fun _ => rfl) _ M 1 _ hk (by omega)).trans rfl)
        rw [Nat.add_assoc]; exact this
      have hpre : Row W1 (some ⟨tb, toff, none⟩) M 2 (q.flatMap turnC) := ⟨by rw [flat_len (enc := turnC) (size := 2) (fun _ => rfl), hM], fun hm => ⟨tb, toff, rfl, htb, fun j u hu => htcell j u (by rw [List.flatMap_append, List.getElem?_append_left (List.getElem?_eq_some_iff.1 hu).1]; exact hu)⟩⟩
      have d2 := H1.out.cell.2.2.1
      rw [htA, htn] at d2
      obtain ⟨n1, rfl⟩ : ∃ n1, n0 = n1 + 1 := ⟨n0 - 1, by omega⟩
      have e1 : IntKind.i64.wrap ((M : Int) + 1 - 1) = (M : Int) := by rw [show (M : Int) + 1 - 1 = (M : Int) by omega]; exact IntWalk.i64_in _ (by omega)
      have hM1 : M ≤ 100 := by omega
      replace t1 : W1.cell? ⟨tb, toff + M * 2 + 1, none⟩ = some (.int .i64 ((n1 : Int) + 1)) := t1
      have g0 : (0 : Int) ≤ (M : Int) := by omega
      have g1 : (M : Int) < (M : Int) + 1 := by omega
      have g2 : (M : Int) ≤ (r.tc : Int) := by omega
      obtain ⟨W2, hW2⟩ : ∃ W2, W2 = W1.alloc (.cells #[.int .i64 (i0 : Int), .int .i64 ((n1 : Int) + 1)] 80) := ⟨_, rfl⟩
      have hb2 : Below W1.heap.size W1 W2 := by rw [hW2]; exact (Below.refl _ _).alloc (Nat.le_refl _) _
      have hX2 : W2.heap[W1.heap.size]? = some (.cells #[.int .i64 (i0 : Int), .int .i64 ((n1 : Int) + 1)] 80) := by rw [hW2]; exact heap_alloc_new W1 _
      have d2w := (hb2.cell (p := ⟨y, 2, none⟩) hgW1).trans d2
      have HPR := hid (hpre.below hb2)
      have HM := hid hM
      clear hr hrow hk hpre htcell htn htA htb hM hfew hql
      go_upto_region 23 with fail
      rw [← hW2]
      clear hW2 t0 t1 c0 c1 c2 c3 c4 c5 c6 c7 c8
      go_wp2_with (at_builtin; refine wpList_append_tnil _ rfl (.const (.slice none 0 0)) (.tmp 149) rfl (Nat.le_refl _) (some ⟨tb, toff, none⟩) M r.tc q rfl rfl HPR.out (by omega) ?_)
      intro A4 k4 w4 hown4 hb4
      have HB4 : Below W1.heap.size W1 w4 := bnext hb2 hb4
      have hown4 := own_lowerM hown4 hb2.size
      have hm4 := H1.out.below HB4
      have q2 := hm4.cell.2.2.1
      have f2 := opblk_free hm4.box 2
      have hX4 := blk_keep hX2 hb4
      have hH5 := hid (ref_turns H1.out HB4 (ts := q) hown4 HM.out)
      have hK4 := hid (HK0.out.trans (KeepM.of_below (Z := fun b => b = y) HB4) (fun _ hb => Or.inl hb))
      have hKW := hid (KeepM.of_below (Z := fun b => b = y) HB4)
      have HX4 := hid hX4
      have HO4 := hid hown4
      clear hm4 hX4 hown4 hb4 hX2 d2w d2 hb2 HPR
      go_upto_region 24 with fail
      obtain ⟨w5, hw5⟩ : ∃ w5, w5 = w4.setCell ⟨y, 2, none⟩ (.slice A4 M k4) := ⟨_, rfl⟩
      have hg5 : w4.grownBy w5 (some y) := by rw [hw5]; exact gb_set (gb_refl w4 (some y)) 2 _
      have H5 : Hid (RefW l { s with turns := q } F y { r with tA := A4, tn := M, tc := k4 } w5) := hid (by rw [hw5]; exact hH5.out)
      have HK5 := hid (show KeepM (fun b => b = y) W w5 by rw [hw5]; exact hK4.out.setCell rfl _ _)
      have HKW5 := hid (show KeepM (fun b => b = y) W1 w5 by rw [hw5]; exact hKW.out.setCell rfl _ _)
      have hX5 : w5.heap[W1.heap.size]? = some (.cells #[.int .i64 (i0 : Int), .int .i64 ((n1 : Int) + 1)] 80) := by rw [hw5]; exact heap_other HX4.out (by omega)
      have HO5 := hid (HO4.out.kept hg5 (Or.inr (fun e => by have := (HO4.out.lt _ e).1; omega)))
      rw [← hw5]
      clear hw5 hg5 hH5 hK4 hKW HX4 HO4 q2 f2
      obtain ⟨x0, x1⟩ : _ ∧ _ := ⟨opblk_cell hX5 0 _ rfl, opblk_cell hX5 1 _ rfl⟩
      by_cases hn : n1 = 0
      · subst hn
        have hns := hid (show nextS s q i0 (0 + 1) = { s with turns := q } by unfold nextS; rw [if_pos (by omega)])
        have g3 : ¬ (1 : Int) < ((0 : Nat) : Int) + 1 := by omega
        obtain ⟨z1, zf⟩ : _ ∧ _ := ⟨H5.out.cell.2.1, opblk_free H5.out.box 1⟩
        have hw2 := one_wrap (n := _) HN.out
        have HT := hid (ref_tail H5.out HK5.out)
        go_wp2_with fail
        go_ret
        rw [HV.out, hns.out]
        exact ⟨rfl, HT.out.1, HT.out.2⟩
      · have hns := hid (show nextS s q i0 (n1 + 1) = { s with at_ := i0, turns := q ++ [(i0, n1)] } by unfold nextS; rw [if_neg (by omega)]; rfl)
        have g3 : (1 : Int) < (n1 : Int) + 1 := by omega
        have e2 : IntKind.i64.wrap ((n1 : Int) + 1 - 1) = (n1 : Int) := by rw [show (n1 : Int) + 1 - 1 = (n1 : Int) by omega]; exact IntWalk.i64_in _ (by omega)
        obtain ⟨v1, vf⟩ : _ ∧ _ := ⟨H5.out.cell.2.1, opblk_free H5.out.box 1⟩
        go_upto_region 26 with fail
        obtain ⟨w6, hw6⟩ : ∃ w6, w6 = w5.setCell ⟨y, 1, none⟩ (.int .i64 (i0 : Int)) := ⟨_, rfl⟩
        have hg6 : w5.grownBy w6 (some y) := by rw [hw6]; exact gb_set (gb_refl w5 (some y)) 1 _
        have H6 : Hid (RefW l { s with at_ := i0, turns := q } F y { r with tA := A4, tn := M, tc := k4 } w6) := hid (by rw [hw6]; exact RefW.store H5.out.box H5.out.flt H5.out.fy (H5.out.rest.same (s' := { s with at_ := i0, turns := q }) rfl rfl rfl rfl) 1 _ rfl)
        have HK6 := hid (show KeepM (fun b => b = y) W w6 by rw [hw6]; exact HK5.out.setCell rfl _ _)
        have HKW6 := hid (show KeepM (fun b => b = y) W1 w6 by rw [hw6]; exact HKW5.out.setCell rfl _ _)
        have hX6 : w6.heap[W1.heap.size]? = some (.cells #[.int .i64 (i0 : Int), .int .i64 ((n1 : Int) + 1)] 80) := by rw [hw6]; exact heap_other hX5 (by omega)
        have HO6 := hid (HO5.out.kept hg6 (Or.inr (fun e => by have := (HO5.out.lt _ e).1; omega)))
        rw [← hw6]
        clear hw6 hg6 H5 HK5 HKW5 HO5 x0 x1 v1 vf hX5
        obtain ⟨X, hX⟩ : ∃ X, X = (w6.alloc (.cells #[.int .i64 (i0 : Int), .int .i64 (n1 : Int)] 80)).drew := ⟨_, rfl⟩
        have hbX : Below w6.heap.size w6 X := by rw [hX]; exact ((Below.refl _ _).alloc (Nat.le_refl _) _).drew
        have hXq : X.heap[w6.heap.size]? = some (.cells #[.int .i64 (i0 : Int), .int .i64 (n1 : Int)] 80) := by
          rw [hX]; exact blk_keep (heap_alloc_new w6 _) (Below.refl _ _).drew
        have hoX := own_keep HO6.out hbX
        have hsX : W1.heap.size ≤ X.heap.size := by have h1 := hbX.size; have h2 := HKW6.out.size; omega
        obtain ⟨A7, k7, w7, hrun, hown7, hg7⟩ := ref_app2 (W1 := W1) (by omega) hsX hoX hXq rfl rfl
        have H6X := H6.out.below hbX
        have hyX := H6X.lt
        have hbx7 : w7.heap[y]? = some (.cells (RSl.cells { r with tA := A4, tn := M, tc := k4 } { s with at_ := i0, turns := q }) 44) := by
          rw [hg7.block y hyX (fun e => by have := (hoX.lt _ e.symm).1; omega)]
          exact H6X.box
        have HK7 := hid ((HKW6.out.trans (KeepM.of_below (Z := fun b => b = y) hbX) (fun _ hb => Or.inl hb)).trans (KeepM.of_grown (Z := fun b => (Value.slice A4 M k4).ownBlock = some b) hg7 (fun b e => e)) (fun b hb => Or.inr (hoX.lt _ hb).1))
        have HKF := hid ((HK6.out.trans (KeepM.of_below (Z := fun b => b = y) hbX) (fun _ hb => Or.inl hb)).trans (KeepM.of_grown (Z := fun b => (Value.slice A4 M k4).ownBlock = some b) hg7 (fun b e => e)) (fun b hb => Or.inr (by have h1 := (hoX.lt _ hb).1; have h2 := HB0.out.size; omega)))
        have H7 := hid (ref_turns2 (p := i0) H1.out HK7.out hbx7 (A := A7) (n := M + 1) (c := k7) (ts := q ++ [(i0, n1)]) (by rw [List.flatMap_append]; exact hown7) (by rw [List.length_append, HM.out]; rfl) rfl)
        obtain ⟨u2, ux0, ux1⟩ : _ ∧ _ ∧ _ := ⟨H6.out.cell.2.2.1, opblk_cell hX6 0 _ rfl, opblk_cell hX6 1 _ rfl⟩
        have p2 := H6X.cell.2.2.1
        have hX6X := blk_keep hX6 hbX
        obtain ⟨px0, px1⟩ : _ ∧ _ := ⟨opblk_cell hX6X 0 _ rfl, opblk_cell hX6X 1 _ rfl⟩
        have s2 := opblk_cell hbx7 2 _ rfl
        have sf := opblk_free hbx7 2
        simp only at u2 p2
        rw [hX] at hrun p2 px0 px1
        clear hX hbX hXq hoX hsX H6X hyX hbx7 hown7 hg7 HO6 HK6 HKW6 H6 HK7 hX6 hX6X
        have e4 : IntKind.i64.wrap (n1 : Int) = (n1 : Int) := IntWalk.i64_in (n1 : Int) (by omega)
        go_region_law (refine step_append_run (by rfl) (.tmp 165) (.tmp 172) 39 (by rfl) _ _ (by kernel_rfl) (by kernel_rfl) _ _ hrun ?_)
        all_goals
          go_upto_region 31 with fail
          obtain ⟨W3, hW3⟩ : ∃ W3, W3 = w7.setCell ⟨y, 2, none⟩ (.slice A7 (M + 1) k7) := ⟨_, rfl⟩
          have HK4 := hid (show KeepM (fun b => b = y) W W3 by rw [hW3]; exact HKF.out.setCell rfl _ _)
          have H3 : Hid (RefW l { s with at_ := i0, turns := q ++ [(i0, n1)] } F y { r with tA := A7, tn := M + 1, tc := k7 } W3) := hid (by rw [hW3]; exact H7.out)
          rw [← hW3]
          clear hW3
          obtain ⟨z1, zf⟩ : _ ∧ _ := ⟨H3.out.cell.2.1, opblk_free H3.out.box 1⟩
          have hw2 := one_wrap (n := _) HN2.out
          have HT := hid (ref_tail H3.out HK4.out)
          go_wp2_with fail
          go_ret
          rw [HV.out, hns.out]
          exact ⟨rfl, HT.out.1, HT.out.2⟩
    · have HV := hid (show stepP l s = ({ { s with saved := s.objs } with at_ := s.at_ + 1 }, 0) by unfold stepP stepO; rw [He.out]; rfl)
      have HN := hid (show s.at_ ≤ 1000 by omega)
      obtain ⟨q3, q4, f4⟩ : _ ∧ _ ∧ _ := ⟨H1.out.cell.2.2.2.1, H1.out.cell.2.2.2.2.1, opblk_free H1.out.box 4⟩
      have hst : RefW l { s with saved := s.objs } F y { r with sA := r.oA, sn := r.on, sc := r.oc, ss := r.os } (W1.setCell ⟨y, 4, none⟩ (.slice r.oA r.on r.oc)) :=
        RefW.store H1.out.box H1.out.flt H1.out.fy (H1.out.rest.savedTo (s' := { s with saved := s.objs }) (c := r.oc) H1.out.rest.objs H1.out.rest.objsd rfl rfl rfl) 4 (.slice r.oA r.on r.oc) rfl
      have Hst := hid hst
      clear hst
      go_upto_region 31 with fail
      obtain ⟨W3, hW3⟩ : ∃ W3, W3 = W1.setCell ⟨y, 4, none⟩ (.slice r.oA r.on r.oc) := ⟨_, rfl⟩
      have HK3 := hid (show KeepM (fun b => b = y) W W3 by rw [hW3]; exact HK0.out.setCell rfl _ _)
      have H3 : Hid (RefW l { s with saved := s.objs } F y { r with sA := r.oA, sn := r.on, sc := r.oc, ss := r.os } W3) := hid (by rw [hW3]; exact Hst.out)
      rw [← hW3]
      clear hW3 Hst q3 q4 f4
      obtain ⟨z1, zf⟩ : _ ∧ _ := ⟨H3.out.cell.2.1, opblk_free H3.out.box 1⟩
      have hw2 := one_wrap (n := _) HN.out
      have HT := hid (ref_tail H3.out HK3.out)
      go_wp2_with fail
      go_ret
      rw [HV.out]
      exact ⟨rfl, HT.out.1, HT.out.2⟩
    · have HV := hid (show stepP l s = ({ { s with objs := s.saved } with at_ := s.at_ + 1 }, 0) by unfold stepP stepO; rw [He.out]; rfl)
      have HN := hid (show s.at_ ≤ 1000 by omega)
      obtain ⟨q3, q4, f3⟩ : _ ∧ _ ∧ _ := ⟨H1.out.cell.2.2.2.1, H1.out.cell.2.2.2.2.1, opblk_free H1.out.box 3⟩
      have hst : RefW l { s with objs := s.saved } F y { r with oA := r.sA, on := r.sn, oc := r.sc, os := r.ss } (W1.setCell ⟨y, 3, none⟩ (.slice r.sA r.sn r.sc)) :=
        RefW.store H1.out.box H1.out.flt H1.out.fy (H1.out.rest.objsTo (s' := { s with objs := s.saved }) (c := r.sc) H1.out.rest.saved H1.out.rest.savedd rfl rfl rfl) 3 (.slice r.sA r.sn r.sc) rfl
      have Hst := hid hst
      clear hst
      go_upto_region 31 with fail
      obtain ⟨W3, hW3⟩ : ∃ W3, W3 = W1.setCell ⟨y, 3, none⟩ (.slice r.sA r.sn r.sc) := ⟨_, rfl⟩
      have HK3 := hid (show KeepM (fun b => b = y) W W3 by rw [hW3]; exact HK0.out.setCell rfl _ _)
      have H3 : Hid (RefW l { s with objs := s.saved } F y { r with oA := r.sA, on := r.sn, oc := r.sc, os := r.ss } W3) := hid (by rw [hW3]; exact Hst.out)
      rw [← hW3]
      clear hW3 Hst q3 q4 f3
      obtain ⟨z1, zf⟩ : _ ∧ _ := ⟨H3.out.cell.2.1, opblk_free H3.out.box 1⟩
      have hw2 := one_wrap (n := _) HN.out
      have HT := hid (ref_tail H3.out HK3.out)
      go_wp2_with fail
      go_ret
      rw [HV.out]
      exact ⟨rfl, HT.out.1, HT.out.2⟩
    · obtain ⟨h16, h1, h10, h11, h12, h13, h14, h15⟩ := hk
      have b16 : (k == 16) = false := by simp [h16]
      have b1 : (k == 1) = false := by simp [h1]
      have b10 : (k == 10) = false := by simp [h10]
      have b11 : (k == 11) = false := by simp [h11]
      have b12 : (k == 12) = false := by simp [h12]
      have b13 : (k == 13) = false := by simp [h13]
      have b14 : (k == 14) = false := by simp [h14]
      have b15 : (k == 15) = false := by simp [h15]
      have HN := hid (show s.at_ ≤ 1000 by omega)
      have HV := hid (show stepP l s = if (doP s.objs ⟨k, i, a, b, c, d, ⟨pw, ph, pl⟩⟩).2 ≠ 0 then (s, (doP s.objs ⟨k, i, a, b, c, d, ⟨pw, ph, pl⟩⟩).2) else ({ s with at_ := s.at_ + 1, objs := (doP s.objs ⟨k, i, a, b, c, d, ⟨pw, ph, pl⟩⟩).1 }, 0) by unfold stepP stepO; rw [He.out]; simp only [h16, h1, h10, h11, h12, h13, h14, h15, if_false])
      have hn6 : r.on ≤ 1000 := by
        have h1 := objs_few (l := dat r.os) (by rw [H1.out.rest.objsd]; exact HK.out.objs)
        rw [dat_len, H1.out.rest.objs.objs.1] at h1
        omega
      have C := hid (fun W2 (hb : Below W1.heap.size W1 W2) => rdo_any3 ⟨⟨k, i, a, b, c, d, ⟨pw, ph, pl⟩⟩, pA, pn, pc⟩ r.oA r.on r.oc r.os W2 (H1.out.rest.objs.objs.below hb) (Hpx1.out.below hb) (by rw [H1.out.rest.objsd]; exact HK.out.objs) hn6 Hof.out)
      rw [H1.out.rest.objsd] at C
      unfold opV at C
      simp only at C
      have hsm := do_small7 s.objs ⟨k, i, a, b, c, d, ⟨pw, ph, pl⟩⟩
      obtain ⟨⟨P, f⟩, hP⟩ : ∃ x, doP s.objs ⟨k, i, a, b, c, d, ⟨pw, ph, pl⟩⟩ = x := ⟨_, rfl⟩
      rw [hP] at C HV hsm
      simp only at C HV hsm
      have x3 := H1.out.cell.2.2.2.1
      have hfarP : ∀ b, RZ F y b → NotIn b (if k = 2 then pA else none) := by
        intro b hb
        by_cases h2 : k = 2
        · rw [if_pos h2]
          intro x hx e
          exact Hpf.out (pic_pos Hof.out h2 Hpx1.out) x hx (by rw [e]; exact hb)
        · rw [if_neg h2]; intro x hx; cases hx
      have hfarO : ∀ b, RZ F y b → Avoid b r.os := by
        intro b hb q hq x hx e
        have hq2 := HK.out.objs.2 q.x (by rw [← H1.out.rest.objsd]; exact List.mem_map.2 ⟨q, hq, rfl⟩)
        have hq3 := pic_len hq2.2.2
        exact H1.out.rest.objs.pics q hq (by have := (H1.out.rest.objs.objs.2.2 q hq).1; omega) x hx (by rw [e]; exact hb)
      have HfP := hid hfarP
      have HfO := hid hfarO
      clear hfarP hfarO h16 h1 h10 h11 h12 h13 h14 h15 hP
      go_upto_region 3 with fail
      go_cut [6, 7] (fun v u wi => ∃ (A : Option Addr) (n c : Nat) (rs : List (FAt FObj)), u = .int .i64 (f : Int) ∧ v = .slice A n c ∧ FObjs (RZ F y) wi A n rs ∧ dat rs = P ∧ Below W1.heap.size W1 wi)
      case first =>
        have HBW : Below W1.heap.size W1 W1 := Below.refl _ _
        have KS := hid (fun W2 (hb : Below W1.heap.size W1 W2) => (⟨(H1.out.below hb).cell.2.2.2.1, OpBoxAt.cells (blk_keep HO1.out hb)⟩ : W2.cell? ⟨y, 3, none⟩ = some (.slice r.oA r.on r.oc) ∧ W2.cell? ⟨go, 0, none⟩ = some (.int .i64 k) ∧ W2.cell? ⟨go, 1, none⟩ = some (.int .i64 i) ∧ W2.cell? ⟨go, 2, none⟩ = some (.int .i64 a) ∧ W2.cell? ⟨go, 3, none⟩ = some (.int .i64 b) ∧ W2.cell? ⟨go, 4, none⟩ = some (.int .i64 c) ∧ W2.cell? ⟨go, 5, none⟩ = some (.int .i64 d) ∧ W2.cell? ⟨go, 6, none⟩ = some (.int .i64 pw) ∧ W2.cell? ⟨go, 7, none⟩ = some (.int .i64 ph) ∧ W2.cell? ⟨go, 8, none⟩ = some (.slice pA pn pc)))
        go_region_held3 (fun W => W.cell? ⟨y, 3, none⟩ = some (.slice r.oA r.on r.oc) ∧ W.cell? ⟨go, 0, none⟩ = some (.int .i64 k) ∧ W.cell? ⟨go, 1, none⟩ = some (.int .i64 i) ∧ W.cell? ⟨go, 2, none⟩ = some (.int .i64 a) ∧ W.cell? ⟨go, 3, none⟩ = some (.int .i64 b) ∧ W.cell? ⟨go, 4, none⟩ = some (.int .i64 c) ∧ W.cell? ⟨go, 5, none⟩ = some (.int .i64 d) ∧ W.cell? ⟨go, 6, none⟩ = some (.int .i64 pw) ∧ W.cell? ⟨go, 7, none⟩ = some (.int .i64 ph) ∧ W.cell? ⟨go, 8, none⟩ = some (.slice pA pn pc)) (first | with_reducible exact KS.out _ HBW | with_reducible exact KS.out _ (by have hB := HBW; (repeat (first | with_reducible exact hB | with_reducible refine Below.alloc ?_ (by have := hB.size; simp; try omega) _ | with_reducible refine Below.setCell ?_ (by have := hB.size; simp; try omega) _ | with_reducible refine below_drewN ?_ _ | with_reducible refine Below.drew ?_))))
          ((go_at_call 41; (with_reducible refine (C.out _ (by first | with_reducible exact HBW | (have hB := HBW; (repeat (first | with_reducible exact hB | with_reducible refine Below.alloc ?_ (by have := hB.size; simp; try omega) _ | with_reducible refine Below.setCell ?_ (by have := hB.size; simp; try omega) _ | with_reducible refine below_drewN ?_ _ | with_reducible refine Below.drew ?_))))).mono ?_); rintro e wa ⟨A2, n2, k2, rs2, rfl, hobj, hdat, hbw, havoid⟩; have HBW : Below W1.heap.size W1 wa := bnext (by have hB := HBW; (repeat (first | with_reducible exact hB | with_reducible refine Below.alloc ?_ (by have := hB.size; simp; try omega) _ | with_reducible refine Below.setCell ?_ (by have := hB.size; simp; try omega) _ | with_reducible refine below_drewN ?_ _ | with_reducible refine Below.drew ?_))) hbw))
        all_goals (go_wp2_with fail)
        all_goals go_meet
        all_goals (exact ⟨A2, n2, k2, rs2, rfl, rfl, far_of H1.out.zlt hobj hdat havoid HfO.out HfP.out (Nat.le_refl _), hdat, HBW⟩)
      case rest =>
        obtain ⟨A2, n2, k2, rs2, rfl, rfl, hfo, hdat, hb3⟩ := hcut
        obtain ⟨w3, rfl⟩ : ∃ w3 : World, w3 = wc := ⟨_, rfl⟩
        have hm3 := H1.out.below hb3
        have HK3 := hid (HK0.out.trans (KeepM.of_below (Z := fun b => b = y) hb3) (fun _ hb => Or.inl hb))
        clear C c0 c1 c2 c3 c4 c5 c6 c7 c8 x3
        by_cases hf0 : f = 0
        · subst hf0
          rw [if_neg (by simp)] at HV
          have q3 := hm3.cell.2.2.2.1
          have f3 := opblk_free hm3.box 3
          have hst : RefW l { s with objs := P } F y { r with oA := A2, on := n2, oc := k2, os := rs2 } (w3.setCell ⟨y, 3, none⟩ (.slice A2 n2 k2)) :=
            RefW.store hm3.box hm3.flt hm3.fy (hm3.rest.objsTo (s' := { s with objs := P }) (c := k2) hfo hdat rfl rfl rfl) 3 (.slice A2 n2 k2) rfl
          have Hst := hid hst
          clear hm3 hfo hst
          go_upto_region 31 with fail
          obtain ⟨W3, hW3⟩ : ∃ W3, W3 = w3.setCell ⟨y, 3, none⟩ (.slice A2 n2 k2) := ⟨_, rfl⟩
          have HK4 := hid (show KeepM (fun b => b = y) W W3 by rw [hW3]; exact HK3.out.setCell rfl _ _)
          have H3 : Hid (RefW l { s with objs := P } F y { r with oA := A2, on := n2, oc := k2, os := rs2 } W3) := hid (by rw [hW3]; exact Hst.out)
          rw [← hW3]
          clear hW3 Hst q3 f3
          obtain ⟨z1, zf⟩ : _ ∧ _ := ⟨H3.out.cell.2.1, opblk_free H3.out.box 1⟩
          have hw2 := one_wrap (n := _) HN.out
          have HT := hid (ref_tail H3.out HK4.out)
          go_wp2_with fail
          go_ret
          rw [HV.out]
          exact ⟨rfl, HT.out.1, HT.out.2⟩
        · have hfp : (0 : Int) < (f : Int) := by omega
          rw [if_pos hf0] at HV
          have H3 := hid hm3
          clear hm3 hfo
          go_wp2_with fail
          go_ret
          rw [HV.out]
          exact ⟨rfl, ⟨r, H3.out⟩, HK3.out⟩
end Fb
