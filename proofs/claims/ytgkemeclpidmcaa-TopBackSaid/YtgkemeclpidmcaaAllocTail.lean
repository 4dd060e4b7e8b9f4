/- A region that draws its order, of reads and of calls that only make memory, of ONE allocation, and of one last store: the text's order serves for every order. Conditions: no guards; edges point back; only the store reads the new address. -/
import Derived.Test.YtgkemeclpidmcaaTailRegion
import Derived.Test.YtgkemeclpidmcaaBase
set_option linter.unusedSimpArgs false
set_option linter.unusedVariables false
namespace Fb
open Go Go.Sort Go.RowKit
theorem runN_two {P : Program} : ∀ (n k : Nat) (m m1 m2 : Machine), runN P n m = .next m1 → runN P (n + k) m = .next m2 → runN P k m1 = .next m2
  | 0, k, m, m1, m2, h1, h2 => by
    rw [Nat.zero_add] at h2
    simp only [runN] at h1
    injection h1 with h1
    subst h1
    exact h2
  | n + 1, k, m, m1, m2, h1, h2 => by
    rw [show n + 1 + k = (n + k) + 1 by omega] at h2
    simp only [runN] at h1 h2
    cases hs : step P m with
    | next m0 => rw [hs] at h1 h2; exact runN_two n k m0 m1 m2 h1 h2
    | _ => rw [hs] at h1; cases h1
/-- a caller that goes no further, whatever it is handed -/
def deaf : Frame := { fn := 0, tmps := #[], todo := [.code (.exit 0)], defers := [], mode := .run, kind := .normal }
theorem deaf_ends {P : Program} {w : World} (v : Value) : ∃ o w', step P (lone (deaf.finish v) [] w) = .ended o w' :=
  ⟨.stuck "exit, goto: no such block or label" (deaf.pos P), w, step_lone_ended (by simp [stepG, deaf, Frame.finish, stepG.exec, exitTo])⟩
/-- one call, two values: they are the same -/
theorem stop_unique {P : Program} {m : Machine} {v1 v2 : Value} {fr1 fr2 : Frame} {w1 w2 : World} (l1 : fr1.leaving P w1 (.returned v1)) (l2 : fr2.leaving P w2 (.returned v2))
    (h1 : Steps P m (lone fr1 [deaf] w1)) (h2 : Steps P m (lone fr2 [deaf] w2)) : v1 = v2 := by
  obtain ⟨n, hn⟩ := h1
  obtain ⟨k, hk⟩ := h2
  have stuck : ∀ (j : Nat) (fr fr' : Frame) (w w' : World) (v : Value), fr.leaving P w (.returned v) → runN P j (lone fr [deaf] w) = .next (lone fr' [deaf] w') → lone fr [deaf] w = lone fr' [deaf] w' := by
    intro j fr fr' w w' v hl h
    cases j with
    | zero => simp only [runN] at h; injection h
    | succ j =>
      simp only [runN] at h
      rw [step_leave_returned hl] at h
      simp only at h
      cases j with
      | zero => simp only [runN] at h; injection h with h; unfold lone at h; simp at h
      | succ j =>
        simp only [runN] at h
        obtain ⟨o, w2, e⟩ := deaf_ends (P := P) (w := w) v
        rw [e] at h
        cases h
  have hm : lone fr1 [deaf] w1 = lone fr2 [deaf] w2 := by
    rcases Nat.le_total n k with h | h
    · obtain ⟨d, rfl⟩ : ∃ d, k = n + d := ⟨k - n, by omega⟩
      exact stuck d fr1 fr2 w1 w2 v1 l1 (runN_two n d m _ _ hn hk)
    · obtain ⟨d, rfl⟩ : ∃ d, n = k + d := ⟨n - k, by omega⟩
      exact (stuck d fr2 fr1 w2 w1 v2 l2 (runN_two k d m _ _ hk hn)).symm
  have s1 := step_leave_returned (c := deaf) (cs := []) l1
  unfold lone at hm
  simp at hm
  obtain ⟨e1, e2⟩ := hm
  subst e1 e2
  obtain ⟨-, -, -, f1, h1, g1⟩ := l1
  obtain ⟨-, -, -, f2, h2, g2⟩ := l2
  rw [h1] at h2
  injection h2 with h2
  subst h2
  rw [g1] at g2
  injection g2
theorem Calls.same {P : Program} {f : FuncId} {args : Array Value} {w : World} {v1 v2 : Value} {C1 C2 : World → Prop} (h1 : Calls P f args w fun e w' => e = .returned v1 ∧ C1 w') (h2 : Calls P f args w fun e w' => e = .returned v2 ∧ C2 w') : v1 = v2 := by
  obtain ⟨_, w1, fr1, ⟨rfl, -⟩, c1, -, l1⟩ := h1 [deaf]
  obtain ⟨_, w2, fr2, ⟨rfl, -⟩, c2, -, l2⟩ := h2 [deaf]
  exact stop_unique l1 l2 c1 c2
section
variable {P : Program} {md : Region.Mode} {C : World → Prop} {h : List Oper} {oa os : Oper}
/-- a quiet operation's value at one world is one -/
theorem quietAt_same {o : Oper} {a : Act} {C1 C2 : World → Prop} {w : World} {v1 v2 : Value} (h1 : o.quietAt P a C1 w v1) (h2 : o.quietAt P a C2 w v2) : v1 = v2 := by
  unfold Oper.quietAt at h1 h2
  generalize (execOp a.eval o).run P w = r at h1 h2
  cases r with
  | ok n w' =>
    cases n <;> simp only [Oper.quietUpon] at h1 h2
    case value u => rw [← h1.2, ← h2.2]
    case skip => rw [h1.2, h2.2]
    case enter f args => exact Calls.same h1.2 h2.2
  | halt x w' => simp only [Oper.quietUpon] at h1
/-- each operation of h looks at no slot d, and writes none; it has no guard, it is no select, its edges point back -/
def awayB (md : Region.Mode) (h : List Oper) (d : Tmp) : Bool :=
  (List.range h.length).all fun j => (h[j]?).elim true fun x => (x.guard.isNone && x.after.all fun e => decide (e.on < j)) && (!(x.looksAt h.toArray).contains d && x.dst != some d) && (match x.op with | .select .. => false | _ => true)
structure Away (h : List Oper) (d : Tmp) (j : Nat) (x : Oper) : Prop where
  guard : x.guard = none
  after : ∀ e ∈ x.after, e.on < j
  looks : d ∉ x.looksAt h.toArray
  dst : x.dst ≠ some d
  sel : ∀ cs b, x.op ≠ .select cs b
theorem awayB_spec {d : Tmp} (hB : awayB md h d = true) {j : Nat} {x : Oper} (hx : h[j]? = some x) : Away h d j x := by
  unfold awayB at hB
  have hj := (List.getElem?_eq_some_iff.1 hx).1
  have h1 := List.all_eq_true.1 hB j (List.mem_range.2 hj)
  rw [hx] at h1
  simp only [Option.elim_some, Bool.and_eq_true, Option.isNone_iff_eq_none] at h1
  obtain ⟨⟨⟨g1, g2⟩, g3, g4⟩, g5⟩ := h1
  refine ⟨g1, fun e he => by simpa using Array.all_eq_true'.1 g2 e he, by simpa using g3, by simpa using g4, fun cs b he => ?_⟩
  rw [he] at g5
  simp at g5
theorem wpAnyQ_put {d : Tmp} {v : Value} (hB : awayB md h d = true) {K : Act → Prop} : ∀ (f : Nat) (l' : Array Bool) (a : Act), wpAnyQ P md h.toArray C K f l' a → wpAnyQ P md h.toArray C (fun a' => ∃ a0, K a0 ∧ a' = a0.put (some d) v) f l' (a.put (some d) v) := by
  intro f
  induction f with
  | zero => intro l' a hq; exact ⟨hq.1, a, hq.2, rfl⟩
  | succ f ih =>
    intro l' a hq
    refine ⟨fun h0 => ⟨a, hq.1 h0, rfl⟩, fun i hi => ?_⟩
    have h1 := hq.2 i hi
    obtain ⟨-, x, hx, -⟩ := mem_ready.1 hi
    have hx' : h[i]? = some x := by simpa using hx
    have A := awayB_spec hB hx'
    unfold qOp at h1 ⊢
    rw [hx] at h1 ⊢
    simp only [wanted_none A.guard, if_true] at h1 ⊢
    obtain ⟨u, hu, hn⟩ := h1
    refine ⟨u, fun w hw => ?_, ?_⟩
    · have := hu w hw
      unfold Oper.quietAt at this ⊢
      rw [execOp_put (ops := h.toArray) x A.sel a (some d) v (fun d' hd => by injection hd with hd; subst hd; exact A.looks)]
      exact this
    · rw [Act.put_comm a v u (fun d' hd => by injection hd with hd; subst hd; exact A.dst)]
      exact ih _ _ hn
/-- the last two: the allocation waits for nothing; the store waits for each and for the allocation -/
def endB (md : Region.Mode) (n : Nat) (oa os : Oper) : Bool :=
  (oa.guard.isNone && oa.after.isEmpty) && (os.guard.isNone && ((os.after.all fun e => decide (e.on < n + 1)) && (List.range (n + 1)).all fun i => os.after.any fun e => Region.binds md e && decide (e.on = i)))
structure Ends (md : Region.Mode) (n : Nat) (oa os : Oper) : Prop where
  ag : oa.guard = none
  aa : oa.after = #[]
  sg : os.guard = none
  sa : ∀ e ∈ os.after, e.on < n + 1
  sw : ∀ i, i < n + 1 → ∃ e ∈ os.after, Region.binds md e = true ∧ e.on = i
theorem endB_spec {n : Nat} (hB : endB md n oa os = true) : Ends md n oa os := by
  unfold endB at hB
  simp only [Bool.and_eq_true, Option.isNone_iff_eq_none] at hB
  obtain ⟨⟨h1, h2⟩, h3, h4, h5⟩ := hB
  refine ⟨h1, by simpa using h2, h3, fun e he => by simpa using Array.all_eq_true'.1 h4 e he, fun i hi => ?_⟩
  obtain ⟨e, he, hb⟩ := Array.any_eq_true'.1 (List.all_eq_true.1 h5 i (List.mem_range.2 hi))
  simp only [Bool.and_eq_true, decide_eq_true_eq] at hb
  exact ⟨e, he, hb.1, hb.2⟩
structure Three (n : Nat) (x : Bool) (l' l : Array Bool) : Prop where
  s1 : l'.size = n
  s2 : l.size = n + 2
  eq : ∀ i, i < n → l'[i]? = l[i]?
  mid : l[n]? = some x
  last : l[n + 1]? = some false
theorem Three.getD {n : Nat} {x : Bool} {l' l : Array Bool} (b : Three n x l' l) {i : Nat} (hi : i < n) (d : Bool) : l'.getD i d = l.getD i d := by
  have := b.eq i hi
  rw [Array.getD_eq_getD_getElem?, Array.getD_eq_getD_getElem?, this]
theorem Three.set {n : Nat} {x : Bool} {l' l : Array Bool} (b : Three n x l' l) {i : Nat} (hi : i < n) : Three n x (l'.setIfInBounds i true) (l.setIfInBounds i true) :=
  ⟨by simp [b.s1], by simp [b.s2], fun j hj => by
    rw [Array.getElem?_setIfInBounds, Array.getElem?_setIfInBounds, b.s1, b.s2, b.eq j hj]
    by_cases e : i = j
    · subst e; simp [hi]; omega
    · simp [e], by rw [Array.getElem?_setIfInBounds, if_neg (by omega)]; exact b.mid, by rw [Array.getElem?_setIfInBounds, if_neg (by omega)]; exact b.last⟩
theorem Three.alloc {n : Nat} {l' l : Array Bool} (b : Three n false l' l) : Three n true l' (l.setIfInBounds n true) :=
  ⟨b.s1, by simp [b.s2], fun j hj => by rw [Array.getElem?_setIfInBounds, if_neg (by omega)]; exact b.eq j hj, by rw [Array.getElem?_setIfInBounds, if_pos rfl, b.s2, if_pos (by omega)], by rw [Array.getElem?_setIfInBounds, if_neg (by omega)]; exact b.last⟩
theorem at3_head {i : Nat} (hi : i < h.length) : (h ++ [oa, os]).toArray[i]? = h[i]? := by simp [List.getElem?_append_left hi]
theorem at3_mid : (h ++ [oa, os]).toArray[h.length]? = some oa := by simp
theorem at3_last : (h ++ [oa, os]).toArray[h.length + 1]? = some os := by simp
theorem three_down {d : Tmp} (hB : awayB md h d = true) (hE : Ends md h.length oa os) {x : Bool} {l' l : Array Bool} (b : Three h.length x l' l) {i : Nat} (hr : i ∈ Region.ready md (h ++ [oa, os]).toArray l) :
    (i < h.length ∧ i ∈ Region.ready md h.toArray l') ∨ (i = h.length ∧ x = false) ∨ (i = h.length + 1 ∧ x = true ∧ AllL h.length l') := by
  obtain ⟨h1, o, h2, h3⟩ := mem_ready.1 hr
  have hi : i < h.length + 2 := by
    have := (Array.getElem?_eq_some_iff.1 h2).1
    simpa using this
  rcases Nat.lt_trichotomy i h.length with hlt | he | hge
  · left
    rw [at3_head hlt] at h2
    refine ⟨hlt, mem_ready.2 ⟨by rw [b.getD hlt]; exact h1, o, by simpa using h2, fun e he hb => ?_⟩⟩
    rw [b.getD (Nat.lt_trans ((awayB_spec hB h2).after e he) hlt)]
    exact h3 e he hb
  · right; left
    subst he
    refine ⟨rfl, ?_⟩
    rw [Array.getD_eq_getD_getElem?, b.mid] at h1
    exact h1
  · right; right
    obtain rfl : i = h.length + 1 := by omega
    rw [at3_last] at h2
    injection h2 with h2
    subst h2
    refine ⟨rfl, ?_, fun j hj => ?_⟩
    · obtain ⟨e, he, hb, he2⟩ := hE.sw h.length (by omega)
      have := h3 e he hb
      rw [he2, Array.getD_eq_getD_getElem?, b.mid] at this
      exact this
    · obtain ⟨e, he, hb, he2⟩ := hE.sw j (by omega)
      have := h3 e he hb
      rw [he2] at this
      rw [b.getD hj]
      exact this
theorem three_up {d : Tmp} (hB : awayB md h d = true) {x : Bool} {l' l : Array Bool} (b : Three h.length x l' l) {i : Nat} (hi : i < h.length) (hr : i ∈ Region.ready md h.toArray l') : i ∈ Region.ready md (h ++ [oa, os]).toArray l := by
  obtain ⟨h1, o, h2, h3⟩ := mem_ready.1 hr
  have h2' : h[i]? = some o := by simpa using h2
  refine mem_ready.2 ⟨by rw [← b.getD hi]; exact h1, o, by rw [at3_head hi]; exact h2', fun e he hb => ?_⟩
  rw [← b.getD (Nat.lt_trans ((awayB_spec hB h2').after e he) hi)]
  exact h3 e he hb
theorem three_mid (hE : Ends md h.length oa os) {l' l : Array Bool} (b : Three h.length false l' l) : h.length ∈ Region.ready md (h ++ [oa, os]).toArray l :=
  mem_ready.2 ⟨by rw [Array.getD_eq_getD_getElem?, b.mid]; rfl, oa, at3_mid, fun e he _ => by rw [hE.aa] at he; simp at he⟩
theorem three_last (hE : Ends md h.length oa os) {l' l : Array Bool} (b : Three h.length true l' l) (ha : AllL h.length l') : h.length + 1 ∈ Region.ready md (h ++ [oa, os]).toArray l := by
  refine mem_ready.2 ⟨by rw [Array.getD_eq_getD_getElem?, b.last]; rfl, os, at3_last, fun e he _ => ?_⟩
  have hlt := hE.sa e he
  rcases Nat.lt_or_ge e.on h.length with h1 | h1
  · rw [← b.getD h1]; exact ha _ h1
  · rw [show e.on = h.length by omega, Array.getD_eq_getD_getElem?, b.mid]; rfl
theorem three_all {d : Tmp} (hB : awayB md h d = true) {l' : Array Bool} (hs : l'.size = h.length) (hr : Region.ready md h.toArray l' = []) : AllL h.length l' := by
  intro j
  induction j using Nat.strongRecOn with
  | _ j ih =>
    intro hj
    cases hd : l'.getD j true with
    | true =>
      rw [Array.getD_eq_getD_getElem?] at hd ⊢
      rw [Array.getElem?_eq_getElem (by omega)] at hd ⊢
      simpa using hd
    | false =>
      exfalso
      have hx : h[j]? = some h[j] := List.getElem?_eq_getElem hj
      have : j ∈ Region.ready md h.toArray l' := mem_ready.2 ⟨hd, h[j], by simp, fun e he _ => ih e.on ((awayB_spec hB hx).after e he) (Nat.lt_trans ((awayB_spec hB hx).after e he) hj)⟩
      rw [hr] at this
      cases this
/-- behind the allocation: the rest in whatever order -/
theorem wpAny_behind {d : Tmp} (hB : awayB md h d = true) (hE : Ends md h.length oa os) {Q : Exit → Act → World → Prop} {K : Act → Prop}
    (hK : ∀ a w, C w → K a → (os.wp P a w (fun a w => Q .normal a w) Q ∨ (os.asks P a w ∧ LetsOut Q))) : ∀ (f : Nat) (l' l : Array Bool) (a : Act) (w : World), Three h.length true l' l → C w →
    wpAnyQ P md h.toArray C K f l' a → wpAny P md (h ++ [oa, os]).toArray Q (f + 1) l a w := by
  have fin : ∀ (f : Nat) (l' l : Array Bool) (a : Act) (w : World), Three h.length true l' l → AllL h.length l' → C w → K a → wpAny P md (h ++ [oa, os]).toArray Q (f + 1) l a w := by
    intro f l' l a w b ha hw hk
    refine ⟨fun h0 => ?_, fun i hi => ?_⟩
    · have := three_last hE b ha
      rw [h0] at this
      cases this
    · rcases three_down hB hE b hi with ⟨h1, h2⟩ | ⟨-, h2⟩ | ⟨rfl, -, -⟩
      · exfalso
        have h3 := (mem_ready.1 h2).1
        have h4 := ha i h1
        rw [Array.getD_eq_getD_getElem?, Array.getElem?_eq_getElem (by have := b.s1; omega)] at h3 h4
        simp at h3 h4
        rw [h3] at h4
        cases h4
      · cases h2
      · unfold wpOp
        rw [at3_last]
        simp only [wanted_none hE.sg, if_true]
        have hend : ∀ j, j < (h ++ [oa, os]).toArray.size → (l.setIfInBounds (h.length + 1) true).getD j true = true := by
          intro j hj
          have hj' : j < h.length + 2 := by simpa using hj
          have hs2 := b.s2
          rw [Array.getD_eq_getD_getElem?, Array.getElem?_setIfInBounds]
          by_cases e : h.length + 1 = j
          · subst e; simp [hs2]
          · rw [if_neg e]
            rcases Nat.lt_or_ge j h.length with hlt | hge
            · have h5 := ha j hlt
              rw [b.getD hlt, Array.getD_eq_getD_getElem?, Array.getElem?_eq_getElem (by omega)] at h5
              rw [Array.getElem?_eq_getElem (by omega)]
              simpa using h5
            · rw [show j = h.length by omega, b.mid]; rfl
        rcases hK a w hw hk with hw' | hw'
        · exact .inl (Oper.wp_mono (fun a' w' hq => wpAny_end (none_of_all hend) hq f) hw')
        · exact .inr hw'
  intro f
  induction f with
  | zero =>
    intro l' l a w b hw hq
    exact fin 0 l' l a w b (three_all hB b.s1 hq.1) hw hq.2
  | succ f ih =>
    intro l' l a w b hw hq
    by_cases hr : Region.ready md h.toArray l' = []
    · exact fin (f + 1) l' l a w b (three_all hB b.s1 hr) hw (hq.1 hr)
    · refine ⟨fun h0 => ?_, fun i hi => ?_⟩
      · exfalso
        cases hr' : Region.ready md h.toArray l' with
        | nil => exact hr hr'
        | cons i r =>
          have hm : i ∈ Region.ready md h.toArray l' := by rw [hr']; simp
          obtain ⟨-, x, h2, -⟩ := mem_ready.1 hm
          have hi : i < h.length := by have := (Array.getElem?_eq_some_iff.1 h2).1; simpa using this
          have := three_up (oa := oa) (os := os) hB b hi hm
          rw [h0] at this
          cases this
      · rcases three_down hB hE b hi with ⟨h1, h2⟩ | ⟨-, h2⟩ | ⟨rfl, -, ha⟩
        · have h3 := hq.2 i h2
          have hx : h[i]? = some h[i] := List.getElem?_eq_getElem h1
          have hg := (awayB_spec hB hx).guard
          unfold qOp at h3
          rw [show h.toArray[i]? = some h[i] by simp] at h3
          simp only [wanted_none hg, if_true] at h3
          unfold wpOp
          rw [at3_head h1, hx]
          simp only [wanted_none hg, if_true]
          exact .inl (Oper.wp_of_quiet hw (fun a' w' hw' hk => ih _ _ a' w' (b.set h1) hw' hk) h3)
        · cases h2
        · exfalso
          apply hr
          exact none_of_all fun j hj => by
            have hj' : j < h.length := by simpa using hj
            have h5 := ha j hj'
            have hs1 := b.s1
            rw [Array.getD_eq_getD_getElem?, Array.getElem?_eq_getElem (by omega)] at h5 ⊢
            simpa using h5
/-- ahead of the allocation -/
theorem wpAny_ahead {d : Tmp} (hB : awayB md h d = true) (hE : Ends md h.length oa os) (hdst : oa.dst = some d) {blk : Go.Obj} (hA : ∀ (a : Act) (w : World), (execOp a.eval oa).run P w = .ok (.value (.pointer (some ⟨w.heap.size, 0, none⟩))) (w.alloc blk))
    {C : World → World → Prop} (h0 : ∀ W, C W W) (ht : ∀ W w u, C W w → C w u → C W u) (hal : ∀ w, C w (w.alloc blk)) {w0 : World} {Q : Exit → Act → World → Prop} {K : Act → Prop}
    (hK : ∀ a w1 w2, C w0 w1 → C (w1.alloc blk) w2 → K a → (os.wp P (a.put (some d) (.pointer (some ⟨w1.heap.size, 0, none⟩))) w2 (fun a w => Q .normal a w) Q ∨ (os.asks P (a.put (some d) (.pointer (some ⟨w1.heap.size, 0, none⟩))) w2 ∧ LetsOut Q))) :
    ∀ (f : Nat) (l' l : Array Bool) (a : Act) (w : World), Three h.length false l' l → C w0 w → (∀ W, C w0 W → wpAnyQ P md h.toArray (C W) K f l' a) → wpAny P md (h ++ [oa, os]).toArray Q (f + 2) l a w := by
  intro f
  induction f with
  | zero =>
    intro l' l a w b hw hq
    refine ⟨fun e => ?_, fun i hi => ?_⟩
    · have := three_mid hE b
      rw [e] at this
      cases this
    · rcases three_down hB hE b hi with ⟨h1, h2⟩ | ⟨rfl, -⟩ | ⟨-, h2, -⟩
      · have := (hq w hw).1
        rw [this] at h2
        cases h2
      · unfold wpOp
        rw [at3_mid]
        simp only [wanted_none hE.ag, if_true]
        refine .inl ?_
        unfold Oper.wp
        rw [hA]
        simp only [Oper.upon]
        rw [hdst]
        exact wpAny_behind (C := C (w.alloc blk)) (K := fun a' => ∃ a0, K a0 ∧ a' = a0.put (some d) (.pointer (some ⟨w.heap.size, 0, none⟩))) hB hE
          (fun a' w' hw' ⟨a0, hk, e⟩ => by subst e; exact hK a0 w w' hw hw' hk) 0 l' _ _ _ b.alloc (h0 _) (wpAnyQ_put hB 0 l' a (hq _ (ht _ _ _ hw (hal _))))
      · cases h2
  | succ f ih =>
    intro l' l a w b hw hq
    refine ⟨fun e => ?_, fun i hi => ?_⟩
    · have := three_mid hE b
      rw [e] at this
      cases this
    · rcases three_down hB hE b hi with ⟨h1, h2⟩ | ⟨rfl, -⟩ | ⟨-, h2, -⟩
      · have hx : h[i]? = some h[i] := List.getElem?_eq_getElem h1
        have hg := (awayB_spec hB hx).guard
        have h3 : ∀ W, C w0 W → h[i].quiet P a (C W) (wpAnyQ P md h.toArray (C W) K f (l'.setIfInBounds i true)) := by
          intro W hW
          have h3 := (hq W hW).2 i h2
          unfold qOp at h3
          rw [show h.toArray[i]? = some h[i] by simp] at h3
          simpa only [wanted_none hg, if_true] using h3
        unfold wpOp
        rw [at3_head h1, hx]
        simp only [wanted_none hg, if_true]
        obtain ⟨v, hv, -⟩ := h3 w0 (h0 _)
        have h4 : h[i].quiet P a (C w0) (fun a' => ∀ W, C w0 W → wpAnyQ P md h.toArray (C W) K f (l'.setIfInBounds i true) a') := by
          refine ⟨v, hv, fun W hW => ?_⟩
          obtain ⟨u, hu, hn⟩ := h3 W hW
          rw [quietAt_same (hv W hW) (hu W (h0 _))]
          exact hn
        exact .inl (Oper.wp_of_quiet hw (fun a' w' hw' hk => ih _ _ a' w' (b.set h1) hw' hk) h4)
      · unfold wpOp
        rw [at3_mid]
        simp only [wanted_none hE.ag, if_true]
        refine .inl ?_
        unfold Oper.wp
        rw [hA]
        simp only [Oper.upon]
        rw [hdst]
        exact wpAny_behind (C := C (w.alloc blk)) (K := fun a' => ∃ a0, K a0 ∧ a' = a0.put (some d) (.pointer (some ⟨w.heap.size, 0, none⟩))) hB hE
          (fun a' w' hw' ⟨a0, hk, e⟩ => by subst e; exact hK a0 w w' hw hw' hk) (f + 1) l' _ _ _ b.alloc (h0 _) (wpAnyQ_put hB (f + 1) l' a (hq _ (ht _ _ _ hw (hal _))))
      · cases h2
/-- The class: w with some blocks laid behind it. -/
abbrev Grown (W w' : World) : Prop := ∃ p : Regrown, w' = grow (redrawn W p.d) p.os
theorem grown_iff {W w' : World} : Grown W w' ↔ Below W.heap.size W w' := ⟨fun ⟨p, e⟩ => by subst e; exact below_regrown _ _ _, fun h => regrown_of_below h⟩
theorem wpQuiet_mono2 {K K' : Act → Prop} (hk : ∀ a, K a → K' a) {ops : Array Oper} : ∀ (l : List Oper) (a : Act), wpQuiet P ops C K l a → wpQuiet P ops C K' l a := by
  intro l
  induction l with
  | nil => intro a h; exact hk a h
  | cons x l ih =>
    intro a h
    unfold wpQuiet at h ⊢
    split
    · rename_i hwn; rw [if_pos hwn] at h; exact Oper.quiet_mono (fun a h => ih a h) h
    · rename_i hwn; rw [if_neg hwn] at h; exact ih _ h
/-- What is read and called is walked in the text's order, in every world that has grown; the store then, wherever the new block lies. -/
theorem wp_region_alloc_last_at {id : Nat} {Q : Exit → Act → World → Prop} {a : Act} {w : World} {l : List Oper} (n : Nat) (d : Tmp) (oa os : Oper) (blk : Go.Obj) (hd : l.drop n = [oa, os])
    (hm : P.follows .mixedOrders = true) (hL : Region.lexB .any (l.take n).toArray = true) (hB : awayB .any (l.take n) d = true) (hE : endB .any (l.take n).length oa os = true) (hdst : oa.dst = some d)
    (hA : ∀ (a : Act) (w : World), (execOp a.eval oa).run P w = .ok (.value (.pointer (some ⟨w.heap.size, 0, none⟩))) (w.alloc blk))
    (hw : ∀ W, Below w.heap.size w W → wpQuiet P (l.take n).toArray (fun w' => ∃ p : Regrown, w' = grow (redrawn W p.d) p.os)
      (fun a' => ∀ g w2, w.heap.size ≤ g → w2.heap[g]? = some blk → Below w.heap.size w w2 → wpList P l.toArray Q [os] (a'.put (some d) (.pointer (some ⟨g, 0, none⟩))) w2) (l.take n) a) : (Code.region id l.toArray true).wp P Q a w := by
  have e : l = l.take n ++ [oa, os] := by rw [← hd, List.take_append_drop]
  have E := endB_spec hE
  simp only [Region.lexB, Bool.and_eq_true] at hL
  have hC : Grown w { w with drawn := w.drawn + 1 } := ⟨⟨w.drawn + 1, #[]⟩, by rw [grow_empty]; rfl⟩
  have H : ∀ W, Grown w W → wpAnyQ P .any (l.take n).toArray (Grown W) (fun a' => ∀ g w2, w.heap.size ≤ g → w2.heap[g]? = some blk → Below w.heap.size w w2 → wpList P l.toArray Q [os] (a'.put (some d) (.pointer (some ⟨g, 0, none⟩))) w2) (l.take n).length (Array.replicate (l.take n).toArray.size false) a :=
    fun W hW => wpAnyQ_lex (C := Grown W) (md := .any) hL.1 (l.take n) 0 (Array.replicate (l.take n).toArray.size false) a (by simp) (by simpa using hL.2) (hw W (grown_iff.1 hW))
  have R := wpAny_ahead (P := P) (md := .any) (h := l.take n) (oa := oa) (os := os) hB E hdst hA (C := Grown) (fun W => grown_iff.2 (Below.refl _ _)) (fun W w u h1 h2 => grown_iff.2 (bnext (grown_iff.1 h1) (grown_iff.1 h2)))
    (fun w => grown_iff.2 ((Below.refl _ _).alloc (Nat.le_refl _) _)) (w0 := w) (Q := Q) (fun a w1 w2 h1 h2 hk => by
      have b1 := grown_iff.1 h1
      have b2 := grown_iff.1 h2
      have hs := b1.size
      have h3 := hk w1.heap.size w2 hs ((b2.block _ (by simp)).trans (MapKept.heap_alloc w1 blk).1) (bnext b1 (bnext ((Below.refl _ _).alloc (Nat.le_refl _) _) b2))
      unfold wpList at h3
      rw [if_pos (wanted_none E.sg _)] at h3
      exact h3) (l.take n).length (Array.replicate (l.take n).toArray.size false) (Array.replicate (l.take n ++ [oa, os]).toArray.size false) a { w with drawn := w.drawn + 1 }
    ⟨by simp, by simp, fun i hi => by rw [Array.getElem?_replicate, Array.getElem?_replicate, if_pos (by simpa using hi), if_pos (by simp only [List.size_toArray, List.length_append]; omega)], by rw [Array.getElem?_replicate, if_pos (by simp)], by rw [Array.getElem?_replicate, if_pos (by simp)]⟩ hC H
  refine wp_region_any hm ?_
  rw [← e] at R
  have hl : l.toArray.size = (l.take n).length + 2 := by
    have := congrArg List.length e
    simpa using this
  rw [show (l.toArray).size = (l.take n).length + 2 from hl] at R ⊢
  exact R
end
theorem blk_cell {w : World} {g o : Nat} {cs : Array Value} {t : TypeId} {v : Value} (h : w.heap[g]? = some (.cells cs t (0, 0))) (ho : cs[o]? = some v) : w.cell? ⟨g, o, none⟩ = some v := by
  obtain ⟨h1, h2⟩ := Array.getElem?_eq_some_iff.1 ho
  simp [World.cell?, h, h1, h2]
theorem blk_free {w : World} {g : Nat} {cs : Array Value} {t : TypeId} (h : w.heap[g]? = some (.cells cs t (0, 0))) (o : Nat) : w.frozen? ⟨g, o, none⟩ = false := by simp [World.frozen?, h]
theorem blk_lt {w : World} {g : Nat} {o : Go.Obj} (h : w.heap[g]? = some o) : g < w.heap.size := (Array.getElem?_eq_some_iff.1 h).1
end Fb
