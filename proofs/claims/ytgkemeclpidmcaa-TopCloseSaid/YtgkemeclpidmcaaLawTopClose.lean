/- The law TopClose: it returns true. Condition: the argument's shape. -/
import Derived.Test.YtgkemeclpidmcaaMachAll
import Derived.Test.YtgkemeclpidmcaaOpen2
import Derived.Test.YtgkemeclpidmcaaRows
import Derived.Maps.RangeWalk
set_option linter.unusedSimpArgs false
set_option linter.unusedVariables false
namespace Fb
open Go Go.Proofs Go.RowKit Go.Sort Go.Maps
attribute [local go_sem ↓] Go.wp_at_zero Go.wp_at_succ
/-! ## the plain law -/
/-- a key of the map is a loop -/
theorem closeD_key {l : List FOp} (hf : BookFine l) : ∀ p, p ≤ l.length → ∀ kl, has (closeD l p) kl = true → ∃ i : Nat, i < l.length ∧ (opAt l i).kind = 12 ∧ kl = .int .i64 (i : Int)
  | 0, _, kl, h => by
    unfold closeD at h
    rw [has_eq] at h
    simp at h
  | p + 1, hp, kl, h => by
    unfold closeD at h
    by_cases h13 : (opAt l p).kind = 13
    · rw [if_pos h13] at h
      obtain ⟨s, j, hs, hj, hjk, -⟩ := next_ends hf (show p < l.length by omega) h13
      have ht : topAt (openAt l p) = j := by unfold topAt; rw [hs]; simp
      rw [ht] at h
      by_cases hne : kl = .int .i64 (j : Int)
      · exact ⟨j, by omega, hjk, hne⟩
      · rw [has_put_other hne] at h
        exact closeD_key hf p (by omega) kl h
    · rw [if_neg h13] at h
      exact closeD_key hf p (by omega) kl h
theorem close_has {l : List FOp} (hf : BookFine l) {i : Nat} (hi : i < l.length) (hk : (opAt l i).kind = 12) : has (closeD l l.length) (.int .i64 (i : Int)) = true := has_true_of_atKey (fun z => close_at hf hi hk z)
/-- how many keys below p are left -/
def leftN (left : Lit → Bool) : Nat → Nat
  | 0 => 0
  | p + 1 => leftN left p + if left (.int .i64 (p : Int)) = true then 1 else 0
theorem leftN_start {l : List FOp} (hf : BookFine l) : leftN (has (closeD l l.length)) l.length = size (closeD l l.length) := by
  rw [close_count hf]
  have key : ∀ p, p ≤ l.length → leftN (has (closeD l l.length)) p = cntK l 12 p := by
    intro p
    induction p with
    | zero => intro _; rfl
    | succ p ih =>
      intro hp
      unfold leftN cntK
      rw [ih (by omega)]
      by_cases h12 : (opAt l p).kind = 12
      · rw [if_pos h12, if_pos (close_has hf (by omega) h12)]
      · rw [if_neg h12, if_neg (fun h => by
          obtain ⟨i, hi, hk, e⟩ := closeD_key hf _ (Nat.le_refl _) _ h
          injection e with _ e
          have : p = i := by omega
          subst this
          exact h12 hk)]
  exact key _ (Nat.le_refl _)
theorem leftN_none {left : Lit → Bool} (h : ∀ kl, left kl = false) : ∀ p, leftN left p = 0
  | 0 => rfl
  | p + 1 => by unfold leftN; rw [leftN_none h p, h]; rfl
theorem leftN_strike {left : Lit → Bool} {i : Nat} (hl : left (.int .i64 (i : Int)) = true) : ∀ p, leftN (fun z => left z && !z.sameKey (.int .i64 (i : Int))) p + (if i < p then 1 else 0) = leftN left p
  | 0 => rfl
  | p + 1 => by
    have ih := leftN_strike hl p
    unfold leftN
    by_cases he : p = i
    · subst he
      have hs : (Lit.int .i64 (p : Int)).sameKey (.int .i64 (p : Int)) = true := WideAt.sameKey_self trivial
      simp only [hs, hl]
      rw [if_neg (Nat.lt_irrefl p)] at ih
      rw [if_pos (Nat.lt_succ_self p)]
      simp
      omega
    · have hs : (Lit.int .i64 (p : Int)).sameKey (.int .i64 (i : Int)) = false := by
        cases hs : (Lit.int .i64 (p : Int)).sameKey (.int .i64 (i : Int)) with
        | false => rfl
        | true =>
          have e := WideAt.sameKey_eq hs
          injection e with _ e
          omega
      simp only [hs, Bool.not_false, Bool.and_true]
      by_cases h1 : i < p
      · rw [if_pos h1] at ih
        rw [if_pos (show i < p + 1 by omega)]
        omega
      · rw [if_neg h1] at ih
        rw [if_neg (show ¬ i < p + 1 by omega)]
        omega
/-- how deep the loops within a loop are -/
def deepAt (l : List FOp) (a i : Nat) : Int := ((openAt l i).length : Int) - ((openAt l a).length : Int) - 1
theorem deep_start {l : List FOp} {a : Nat} (hk : (opAt l a).kind = 12) : deepAt l a (a + 1) = 0 := by
  unfold deepAt
  rw [openAt_succ, openStep_len, if_pos hk]
  omega
theorem deep_end {l : List FOp} {a e : Nat} (h : EndAt l a e) : deepAt l a e = 0 := by
  unfold deepAt
  rw [h.open_, List.length_append]
  simp
  omega
theorem deep_ge {l : List FOp} {a e i : Nat} (h : EndAt l a e) (h1 : a < i) (h2 : i ≤ e) : 0 ≤ deepAt l a i := by
  unfold deepAt
  obtain ⟨t, ht⟩ := h.between i h1 h2
  rw [ht, List.length_append]
  simp
  omega
theorem deep_le {l : List FOp} (hf : BookFine l) {a i : Nat} (hi : i ≤ l.length) : deepAt l a i ≤ 3 := by
  unfold deepAt
  have := hf.deep i hi
  omega
theorem deep_step {l : List FOp} {a e i : Nat} (h : EndAt l a e) (h1 : a < i) (h2 : i < e) : deepAt l a (i + 1) = deepAt l a i + (if (opAt l i).kind = 12 then 1 else 0) - (if (opAt l i).kind = 13 then 1 else 0) := by
  unfold deepAt
  rw [openAt_succ, openStep_len]
  obtain ⟨t, ht⟩ := h.between i h1 (by omega)
  by_cases h12 : (opAt l i).kind = 12
  · rw [if_pos h12, if_pos h12, if_neg (by omega)]
    omega
  · rw [if_neg h12, if_neg h12]
    by_cases h13 : (opAt l i).kind = 13
    · rw [if_pos h13, if_pos h13, ht, List.length_append]
      simp
      omega
    · rw [if_neg h13, if_neg h13]
      omega
theorem below_gbn {w0 w w' : World} {B r : Nat} (h : Below B w0 w) (hg : w.grownBy w' (some r)) (hr : B ≤ r) (hs : B ≤ w.heap.size) : Below B w0 w' :=
  h.trans ⟨hg.os, hg.tape, hg.output, hg.size, fun k hk => hg.block k (by omega) (fun e => by injection e with e; omega)⟩
set_option maxRecDepth 100000 in
set_option maxHeartbeats 16000000 in
theorem topClose_walk (A : Option Addr) (n c : Nat) (rs : List (FAt FOp)) (w : World) (hl : Ops w A n rs) (hn : n ≤ maxLen) :
    Calls Try.prog 9 #[.slice A n c] w (Ret (.bool true) w) := by
  have HL := hid hl
  have hlen := hl.1
  clear hl
  go_enter Try.func9, Try.ntmps9
  go_wp2_with fail
  refine (mworks_any w).mono ?_
  rintro e w1 ⟨rfl, hb1⟩
  go_wp2_with fail
  refine (mmay_any A n c rs w1 (HL.out.below hb1) hn).mono ?_
  rintro e w2 ⟨rfl, hb2⟩
  have hB2 := bnext hb1 hb2
  by_cases hm : mayB n rs = true
  case neg =>
    rw [show mayB n rs = false by simpa using hm]
    go_wp2_with fail
    go_ret
    exact ⟨rfl, hB2⟩
  rw [hm]
  obtain ⟨m1, m2, m3⟩ := may_iff.1 hm
  have hf := book_fine m3
  clear m2 m3 hm hb1 hb2
  have C := bookclose_any A n c rs w2 (HL.out.below hB2) hf
  obtain ⟨l, hl⟩ : ∃ l, datO rs = l := ⟨_, rfl⟩
  have hln : l.length = n := by rw [← hl, datO_len, hlen]
  have hkd : ∀ k (h : k < rs.length), rs[k].x.kind = (opAt l k).kind := fun k h => by rw [← hl, datO_at h]
  have HKD := hid hkd
  rw [hl] at C hf
  have HF := hid hf
  have h2 := hf.two
  have h60 := hf.few
  obtain ⟨ob, off, rfl, hob, hat⟩ := Ops.open_ HL.out (by omega)
  have HA := hid hat
  clear hat hl hkd HL hf
  go_wp2_with fail
  refine C.mono ?_
  rintro e w3 ⟨b, mn, rfl, hown, hmn, hlow, hb3⟩
  have hB3 := bnext hB2 hb3
  have HOW := hid hown
  clear C hown hb3 hB2
  obtain ⟨D, hD⟩ : ∃ D, closeD l l.length = D := ⟨_, rfl⟩
  have HD := hid hD
  rw [hD] at HOW
  clear hD
  go_wp2_with (first | (at_range; refine wpList_range_own _ rfl _ 63 rfl 3 3 law_int Try.underlying63 _ b mn D rfl HOW.out ?_; intro w0 hrg0 hg0 hs0) | fail)
  go_frame
  obtain ⟨r, hr⟩ : ∃ r, w3.heap.size = r := ⟨_, rfl⟩
  rw [hr] at hrg0 ⊢
  have hrB : w.heap.size ≤ r := by rw [← hr]; exact hB3.size
  have hB0 : Below w.heap.size w w0 := hB3.trans ⟨hg0.os, hg0.tape, hg0.output, hg0.size, fun k hk => hg0.block k (Nat.lt_of_lt_of_le hk hB3.size) (by simp)⟩
  have HB0 := hid hB0
  have HR0 := hid hrg0
  clear hB0 hrg0 hg0 hs0 hr hB3 HOW
  go_loopw [5] (fun nv wr => ∃ (k cnt : Nat) (left : Lit → Bool), nv = .int .i64 k ∧ Hid (wr.ranges Try.prog 3 (plainElem Try.prog 3) b r mn D left cnt) ∧ Hid (∀ z, left z = true → has D z = true) ∧ Hid (k + leftN left l.length = size D) ∧ Hid (Below w.heap.size w wr)) (fun _ wr => wr.rangeLeft b r)
  case atStart =>
    refine ⟨0, _, _, rfl, HR0, hid (fun z h => h), hid ?_, HB0⟩
    rw [← HD.out, leftN_start HF.out, Nat.zero_add]
  case round =>
    obtain ⟨k, cnt, left, rfl, HR, HLE, HN, HB⟩ := hrel
    clear HR0 HB0
    go_wp2_with (first
      | (at_next; refine wpList_next_ranges_ii _ rfl _ rfl 3 3 .i64 .i64 law_int Try.underlying3 Try.underlying3 b r mn _ _ _ rfl HR.out ?_ ?_)
      | fail)
    · intro _ hl0
      have hkk : k = size D := by have := HN.out; rw [leftN_none hl0] at this; omega
      subst hkk
      clear HN HLE
      go_wp2_with (first | (at_len; refine wpList_len_own _ rfl _ 63 rfl 3 3 Try.underlying63 _ b mn _ rfl HR.out.owns ?_) | fail)
      go_wp2_with fail
      go_ret
      exact ⟨rfl, HB.out⟩
    · intro x e w4 cnt1 hwx hwc hlx hatD hrg1 hlt hg1 hs1 hen
      obtain ⟨i, hi, hik, e1⟩ := closeD_key HF.out _ (Nat.le_refl _) _ (by rw [HD.out]; exact HLE.out _ hlx)
      injection e1 with _ e1
      subst e1
      have hEnd := endP_spec HF.out hi hik
      obtain ⟨j, hj⟩ : ∃ j, endP l i = j := ⟨_, rfl⟩
      have hej : e = (j : Int) := by
        have h1 := hatD (.map [])
        rw [← HD.out, close_at HF.out hi hik, hj] at h1
        injection h1 with h1
        injection h1 with _ h1
        exact h1.symm
      subst hej
      rw [hj] at hEnd
      have hB4 : Below w.heap.size w w4 := below_gbn HB.out hg1 hrB HB.out.size
      have hi1 : 1 ≤ i := by
        rcases Nat.eq_zero_or_pos i with h0 | h0
        · subst h0
          rw [HF.out.head] at hik
          exact absurd hik (by decide)
        · exact h0
      have hlt1 := hEnd.lt
      have hlt2 := hEnd.len
      have hkn : k + leftN left l.length = size D := HN.out
      have hst := leftN_strike hlx l.length
      rw [if_pos hi] at hst
      have hsz : size D ≤ l.length := by rw [← HD.out, close_count HF.out]; exact cntK_le _ _ _
      have HN2 := hid (show (k + 1) + leftN (fun z => left z && !z.sameKey (.int .i64 (i : Int))) l.length = size D by omega)
      have HLE2 := hid (fun z (hz : (left z && !z.sameKey (.int .i64 (i : Int))) = true) => HLE.out z (by simp at hz; exact hz.1))
      have hcm : w4.rangeLeft b r < wr.rangeLeft b r := by rw [hrg1.left_eq, HR.out.left_eq]; exact hlt
      have hk60 : k ≤ 60 := by omega
      have HR1 := hid hrg1
      have HCM := hid hcm
      have HEnd := hid hEnd
      have HIK := hid hik
      have HB4 := hid hB4
      clear hlx hatD hrg1 hlt hg1 hs1 hwx hwc HN HLE HR hkn hst hsz hcm hEnd hj
      have c1 : w4.cell? ⟨ob, off + i * 9, none⟩ = some (.int .i64 12) := by
        have := (OpCells.below (HA.out i (by omega)) hB4 hob).1
        rw [HKD.out i (by omega), hik] at this
        exact this
      have c2 : w4.cell? ⟨ob, off + j * 9, none⟩ = some (.int .i64 13) := by
        have := (OpCells.below (HA.out j (by omega)) hB4 hob).1
        rw [HKD.out j (by omega), HEnd.out.kind] at this
        exact this
      have HC := hid (fun p (hp : p < l.length) => (by
        have := (OpCells.below (HA.out p (by omega)) hB4 hob).1
        rw [HKD.out p (by omega)] at this
        exact this : w4.cell? ⟨ob, off + p * 9, none⟩ = some (.int .i64 (opAt l p).kind)))
      clear hik hB4 HB
      have i1 : (0 : Int) ≤ (i : Int) := by omega
      have i2 : (i : Int) < (n : Int) := by omega
      have i3 : (0 : Int) ≤ (j : Int) := by omega
      have i4 : (j : Int) < (n : Int) := by omega
      have i5 : ¬ (i : Int) < 1 := by omega
      have i6 : ¬ (j : Int) ≤ (i : Int) := by omega
      have i7 : ¬ (n : Int) ≤ (j : Int) := by omega
      have e1 : IntKind.i64.wrap ((k : Int) + 1) = (k : Int) + 1 := IntWalk.i64_in _ (by omega)
      have e2 : IntKind.i64.wrap ((i : Int) + 1) = (i : Int) + 1 := IntWalk.i64_in _ (by omega)
      go_wp2_with fail
      clear HA HKD c1 c2 i1 i2 i3 i4 i5 i6 i7
      go_loopw [8, 9] (fun dv jv wr => ∃ p : Nat, dv = .int .i64 (deepAt l i p) ∧ jv = .int .i64 (p : Int) ∧ i < p ∧ p ≤ j ∧ wr = w4) (fun _ jv _ => j - (intOf jv).toNat)
      case atStart => exact ⟨i + 1, by rw [deep_start HIK.out], by go_num, by omega, by omega, rfl⟩
      case round =>
        obtain ⟨p, rfl, rfl, hp1, hp2, rfl⟩ := hrel
        by_cases hp : p < j
        · have hcp : wr.cell? ⟨ob, off + p * 9, none⟩ = some (.int .i64 (opAt l p).kind) := HC.out p (by omega)
          have hds := deep_step HEnd.out hp1 hp
          have hge := deep_ge HEnd.out (i := p + 1) (by omega) (by omega)
          have hge0 := deep_ge HEnd.out (i := p) (by omega) (by omega)
          have hle := deep_le (a := i) HF.out (i := p) (by omega)
          obtain ⟨kp, hkp⟩ : ∃ kp, (opAt l p).kind = kp := ⟨_, rfl⟩
          obtain ⟨d, hd⟩ : ∃ d, deepAt l i p = d := ⟨_, rfl⟩
          obtain ⟨d2, hd2⟩ : ∃ d2, deepAt l i (p + 1) = d2 := ⟨_, rfl⟩
          rw [hkp] at hcp hds
          rw [hd] at hds hge0 hle
          rw [hd2] at hds hge
          rw [hd]
          have HD2 := hid hd2
          clear hkp hd hd2
          have e3 : IntKind.i64.wrap ((p : Int) + 1) = (p : Int) + 1 := IntWalk.i64_in _ (by omega)
          have q1 : (0 : Int) ≤ (p : Int) := by omega
          have q2 : (p : Int) < (n : Int) := by omega
          have q3 : (p : Int) < (j : Int) := by omega
          have q4 : ¬ d2 < 0 := by omega
          by_cases h12 : kp = 12
          · subst h12
            rw [if_pos rfl, if_neg (by decide)] at hds
            have e4 : IntKind.i64.wrap (d + 1) = d2 := by rw [show d + 1 = d2 by omega]; exact IntWalk.i64_in _ (by omega)
            clear hds
            go_wp2_with fail
            go_roundw
            case rel => exact ⟨p + 1, by rw [HD2.out], by go_num, by omega, by omega, trivial⟩
            case measure => simp [intOf]; omega
          · by_cases h13 : kp = 13
            · subst h13
              rw [if_neg (by decide), if_pos rfl] at hds
              have e4 : IntKind.i64.wrap (d - 1) = d2 := by rw [show d - 1 = d2 by omega]; exact IntWalk.i64_in _ (by omega)
              clear hds
              go_wp2_with fail
              go_roundw
              case rel => exact ⟨p + 1, by rw [HD2.out], by go_num, by omega, by omega, trivial⟩
              case measure => simp [intOf]; omega
            · rw [if_neg h12, if_neg h13] at hds
              obtain rfl : d2 = d := by omega
              have b1 : (kp == 12) = false := by simp [h12]
              have b2 : (kp == 13) = false := by simp [h13]
              clear hds
              go_wp2_with fail
              go_roundw
              case rel => exact ⟨p + 1, by rw [HD2.out], by go_num, by omega, by omega, trivial⟩
              case measure => simp [intOf]; omega
        · obtain rfl : p = j := by omega
          rw [deep_end HEnd.out]
          have q3 : ¬ (p : Int) < (p : Int) := by omega
          go_wp2_with fail
          go_roundw
          case rel => exact ⟨k + 1, cnt1, _, by go_num, HR1, HLE2, HN2, HB4⟩
          case measure => exact HCM.out
theorem topClose_row (w : World) (r : FAt (List (FAt FOp))) (h : Ops w r.A r.n r.x ∧ r.n ≤ r.c ∧ r.c ≤ maxLen ∧ ∀ q ∈ r.x, OpOk w q) :
    Calls Try.prog 9 #[.slice r.A r.n r.c] w (Ret (.bool true) w) :=
  topClose_walk r.A r.n r.c r.x w h.1 (Nat.le_trans h.2.1 h.2.2.1)
end Fb
