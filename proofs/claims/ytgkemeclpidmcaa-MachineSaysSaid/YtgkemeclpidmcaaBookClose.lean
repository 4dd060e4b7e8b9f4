/- law.LightOps, and book.Close: it returns a map of its own, that reads as the ends of the book's loops. Condition: a book that may be. -/
import Derived.Test.YtgkemeclpidmcaaPlainB
import Derived.Deep.DrawnRows
import Derived.BigRegion
import Derived.Test.YtgkemeclpidmcaaPlainA
import Derived.Maps.OwnSet
import Derived.Maps.OwnOps
import Derived.Maps.Views
import Derived.Maps.AppendAt
import Derived.WalkSmall
namespace Fb
open Go Go.Proofs Go.RowKit Go.Sort Go.Maps
attribute [local go_sem ↓] Go.wp_at_zero Go.wp_at_succ
/-! ## the plain law -/
def topAt (s : List Nat) : Nat := s.getLast?.getD 0
/-- what the map of the ends reads as, behind p ops -/
def closeD (l : List FOp) : Nat → DataW Unit
  | 0 => .map []
  | p + 1 => if (opAt l p).kind = 13 then (closeD l p).put (.int .i64 (topAt (openAt l p))) (.lit (.int .i64 p)) else closeD l p
def cntK (l : List FOp) (k : Int) : Nat → Nat
  | 0 => 0
  | p + 1 => cntK l k p + if (opAt l p).kind = k then 1 else 0
theorem cntK_le (l : List FOp) (k : Int) : ∀ p, cntK l k p ≤ p
  | 0 => Nat.le_refl _
  | p + 1 => by have := cntK_le l k p; unfold cntK; split <;> omega
theorem closeD_tidy (l : List FOp) : ∀ p, Tidy (closeD l p)
  | 0 => tidy_empty
  | p + 1 => by
    unfold closeD
    split
    · exact (closeD_tidy l p).put (show WideAt.IsKeyLit (.int _ _) from trivial) _
    · exact closeD_tidy l p
theorem closeD_spec {l : List FOp} (hf : BookFine l) : ∀ p, p ≤ l.length → ∀ i, i < l.length → (opAt l i).kind = 12 →
    (endP l i < p → ∀ z, (closeD l p).atKey (.int .i64 i) z = .lit (.int .i64 (endP l i))) ∧ (¬ endP l i < p → has (closeD l p) (.int .i64 i) = false)
  | 0, _, i, hi, hk => ⟨fun h => by omega, fun _ => rfl⟩
  | p + 1, hp, i, hi, hk => by
    obtain ⟨h1, h2⟩ := closeD_spec hf p (by omega) i hi hk
    have hE := endP_spec hf hi hk
    unfold closeD
    by_cases h13 : (opAt l p).kind = 13
    · rw [if_pos h13]
      obtain ⟨s, j, hs, hj, hjk, hje⟩ := next_ends hf (show p < l.length by omega) h13
      have ht : topAt (openAt l p) = j := by unfold topAt; rw [hs]; simp
      rw [ht]
      by_cases hij : i = j
      · subst hij
        refine ⟨fun _ z => ?_, fun h => by omega⟩
        rw [atKey_put_same (closeD_tidy l p).isMap (show WideAt.IsKeyLit (.int _ _) from trivial), hje]
      · have hne : (Lit.int .i64 (i : Int)) ≠ .int .i64 (j : Int) := by
          intro e
          injection e with _ e
          omega
        have hep : endP l i ≠ p := by
          intro e
          have ho := hE.open_
          rw [e, hs] at ho
          have := (List.append_inj' ho rfl).2
          simp at this
          omega
        refine ⟨fun h z => ?_, fun h => ?_⟩
        · rw [atKey_put_other hne]; exact h1 (by omega) z
        · rw [has_put_other hne]; exact h2 (by omega)
    · rw [if_neg h13]
      have hep : endP l i ≠ p := fun e => h13 (by rw [← e]; exact hE.kind)
      exact ⟨fun h => h1 (by omega), fun h => h2 (by omega)⟩
theorem closeD_size {l : List FOp} (hf : BookFine l) : ∀ p, p ≤ l.length → size (closeD l p) = cntK l 13 p
  | 0, _ => rfl
  | p + 1, hp => by
    have ih := closeD_size hf p (by omega)
    unfold closeD cntK
    by_cases h13 : (opAt l p).kind = 13
    · rw [if_pos h13, if_pos h13]
      obtain ⟨s, j, hs, hj, hjk, hje⟩ := next_ends hf (show p < l.length by omega) h13
      have ht : topAt (openAt l p) = j := by unfold topAt; rw [hs]; simp
      have := (closeD_spec hf p (by omega) j (by omega) hjk).2 (by omega)
      rw [ht, size_put (closeD_tidy l p), this, ih]
      rfl
    · rw [if_neg h13, if_neg h13, ih]; rfl
theorem open_count {l : List FOp} (hf : BookFine l) : ∀ p, p ≤ l.length → (openAt l p).length + cntK l 13 p = cntK l 12 p
  | 0, _ => rfl
  | p + 1, hp => by
    have ih := open_count hf p (by omega)
    have hs := openStep_len (s := openAt l p) (i := p) (k := (opAt l p).kind)
    rw [← openAt_succ] at hs
    unfold cntK
    rw [hs]
    by_cases h12 : (opAt l p).kind = 12
    · rw [if_pos h12, if_pos h12, if_neg (by omega)]; omega
    · rw [if_neg h12, if_neg h12]
      by_cases h13 : (opAt l p).kind = 13
      · rw [if_pos h13, if_pos h13]
        have hne := hf.next p (by omega) h13
        have : (openAt l p).length ≠ 0 := fun e => hne (List.eq_nil_of_length_eq_zero e)
        omega
      · rw [if_neg h13, if_neg h13]; omega
theorem close_count {l : List FOp} (hf : BookFine l) : size (closeD l l.length) = cntK l 12 l.length := by
  have h1 := open_count hf l.length (Nat.le_refl _)
  rw [hf.shut] at h1
  rw [closeD_size hf _ (Nat.le_refl _)]
  simpa using h1
theorem close_at {l : List FOp} (hf : BookFine l) {i : Nat} (hi : i < l.length) (hk : (opAt l i).kind = 12) (z : DataW Unit) : (closeD l l.length).atKey (.int .i64 i) z = .lit (.int .i64 (endP l i)) :=
  (closeD_spec hf _ (Nat.le_refl _) i hi hk).1 (by have := (endP_spec hf hi hk).len; omega) z
def lightOB (rs : List (FAt FOp)) : Bool := rs.all fun r => decide (r.n ≤ 80)
set_option maxRecDepth 100000 in
set_option maxHeartbeats 2000000 in
theorem lightops_any (A : Option Addr) (n c : Nat) (rs : List (FAt FOp)) (most : Nat) (w : World) (h : Ops w A n rs) (hm : most ≤ 1000) (hn : n ≤ maxLen) :
    Calls Try.prog 15 #[.slice A n c, .int .i64 most] w (Ret (.bool (decide (n ≤ most) && lightOB rs)) w) := by
  have hlen := h.1
  have H := hid h
  clear h
  by_cases hnm : n ≤ most
  case neg =>
    have hV := hid (show (decide (n ≤ most) && lightOB rs) = false by simp [hnm])
    have i1 : (most : Int) < (n : Int) := by omega
    clear hnm
    go_enter Try.func15, Try.ntmps15
    go_wp2_with fail
    go_ret
    exact ⟨by rw [hV.out]; rfl, Below.refl _ _⟩
  have i1 : ¬ (most : Int) < (n : Int) := by omega
  obtain ⟨V, hVd⟩ : ∃ V, (decide (n ≤ most) && lightOB rs) = V := ⟨_, rfl⟩
  rw [hVd]
  have hV := hid (show V = lightOB (rs.drop 0) by rw [← hVd]; simp [hnm])
  clear hVd
  go_enter Try.func15, Try.ntmps15
  go_wp2_with fail
  clear i1
  go_loopw [5] (fun iv wr => ∃ k : Nat, k ≤ n ∧ iv = .int .i64 k ∧ Hid (V = lightOB (rs.drop k)) ∧ Hid (Below w.heap.size w wr)) (fun iv _ => n - (intOf iv).toNat)
  case atStart => exact ⟨0, by omega, rfl, hV, hid (Below.refl _ _)⟩
  case round =>
    clear hV
    obtain ⟨k, hk, rfl, HV, HB⟩ := hrel
    by_cases hlt : k < n
    · obtain ⟨b1, o1, rfl, hb1, ha1⟩ := Ops.open_ H.out (by omega)
      have hk1 : k < rs.length := by omega
      have hc1 := OpCells.below (ha1 k hk1) HB.out hb1
      have hv := HV.out
      rw [List.drop_eq_getElem_cons hk1] at hv
      obtain ⟨⟨⟨kk, i, a, bb, cc, dd, ⟨pw, ph, pl⟩⟩, qA, qn, qc⟩, hr⟩ : ∃ r, rs[k] = r := ⟨_, rfl⟩
      rw [hr] at hc1 hv
      obtain ⟨c0, c1, c2, c3, c4, c5, c6, c7, c8⟩ := hc1
      simp only at c0 c1 c2 c3 c4 c5 c6 c7 c8
      have HVV := hid hv
      have i1 : (0 : Int) ≤ (k : Int) := by omega
      have i2 : (k : Int) < (n : Int) := by omega
      clear hr hv HV ha1
      go_wp2_with fail
      refine (lightpic_any ⟨⟨pw, ph, pl⟩, qA, qn, qc⟩ _).mono ?_
      rintro e w2 ⟨rfl, hb2⟩
      have HB2 := hid (bnext HB.out hb2)
      by_cases hq : qn ≤ 80
      · have hqd : decide (qn ≤ 80) = true := by simp [hq]
        have HN := hid (show V = lightOB (rs.drop (k + 1)) by rw [HVV.out]; simp [lightOB, hq])
        rw [hqd]
        clear hqd hq c0 c1 c2 c3 c4 c5 c6 c7 c8
        go_wp2_with fail
        go_roundw
        case rel => exact ⟨k + 1, by omega, by go_num, HN, HB2⟩
        case measure => simp [intOf]; omega
      · have hqd : decide (qn ≤ 80) = false := by simp; omega
        have HN := hid (show V = false by rw [HVV.out]; simp [lightOB]; intro h9; omega)
        rw [hqd]
        clear hqd hq c0 c1 c2 c3 c4 c5 c6 c7 c8
        go_wp2_with fail
        go_ret
        exact ⟨by rw [HN.out]; rfl, HB2.out⟩
    · obtain rfl : k = n := by omega
      have HN := hid (show V = true by rw [HV.out, List.drop_of_length_le (by omega)]; rfl)
      go_wp2_with fail
      go_ret
      exact ⟨by rw [HN.out]; rfl, HB.out⟩
end Fb
namespace Fb
open Go Go.Proofs Go.RowKit Go.Sort Go.Maps
attribute [local go_sem ↓] Go.wp_at_zero Go.wp_at_succ
theorem info_intC : (Try.prog.info? 3).map (fun i => (i.zero, i.size, i.bytes)) = some (some (.int .i64 0), 1, 8) := by kernel_rfl
theorem law_int : Keyed Try.prog 3 := int_keyed Try.underlying3
def opC (s : List Nat) : List Value := s.map fun (i : Nat) => Value.int .i64 (i : Int)
/-- the call returns a map in new memory, that reads as D -/
def RetMap (D : DataW Unit) (w : World) (e : Ending) (w' : World) : Prop := ∃ b n : Nat, e = .returned (.map (some b)) ∧ w'.ownsMap Try.prog 3 (plainElem Try.prog 3) b n D ∧ n ≤ 1000 ∧ w.heap.size ≤ b ∧ Below w.heap.size w w'
set_option maxRecDepth 100000 in
set_option maxHeartbeats 4000000 in
theorem bookclose_any (A : Option Addr) (n c : Nat) (rs : List (FAt FOp)) (w : World) (h : Ops w A n rs) (hf : BookFine (datO rs)) :
    Calls Try.prog 34 #[.slice A n c] w (RetMap (closeD (datO rs) (datO rs).length) w) := by
  obtain ⟨i0, hi, hz0, hz1, hz2⟩ := info_parts info_intC
  have hmm := @run_makeMap Try.prog
  have hlen := h.1
  have hln := datO_len rs
  rw [hlen] at hln
  have h2 := hf.two
  have h60 := hf.few
  rw [hln] at h2 h60
  obtain ⟨b, off, rfl, hb, hat⟩ := Ops.open_ h (by omega)
  have HA := hid hat
  have HF := hid hf
  have HLn := hid hln
  clear h hf hat hln
  go_enter Try.func34, Try.ntmps34
  go_wp2_with fail
  clear hmm
  obtain ⟨wm, hwm⟩ : ∃ g, g = w.heap.size := ⟨_, rfl⟩
  have HM0 := hid (show (w.alloc (.map #[] 0)).ownsMap Try.prog 3 (plainElem (H := Unit) Try.prog 3) wm 0 (.map []) by rw [hwm]; exact World.ownsMap_made _ _ _ _)
  have hwz : w.heap.size ≤ wm := by omega
  rw [← hwm]
  clear hwm
  go_loopw [4, 10] (fun ov iv wr => ∃ k : Nat, k ≤ n ∧ iv = .int .i64 k ∧ Hid (wr.ownsRow (wm + 1) 3 1 ov (openAt (datO rs) k).length (opC (openAt (datO rs) k))) ∧ Hid (wr.ownsMap Try.prog 3 (plainElem Try.prog 3) wm k (closeD (datO rs) k)) ∧ Hid (Below w.heap.size w wr)) (fun _ iv _ => n - (intOf iv).toNat)
  case atStart => exact ⟨0, by omega, rfl, hid (World.ownsRow_nil _ _ _ _), HM0, hid ((Below.refl _ _).alloc (Nat.le_refl _) _)⟩
  case round =>
    clear HM0
    obtain ⟨k, hk, rfl, HO, HM, HB⟩ := hrel
    have hmlt := HM.out.lt
    obtain ⟨oA, oc, rfl, hoA, -⟩ := own_slice HO.out
    by_cases hlt : k < n
    · have hkr : k < rs.length := by omega
      have hc := OpCells.below (HA.out k hkr) HB.out hb
      have hat := datO_at hkr
      have hst := openAt_succ (datO rs) k
      have hdd : closeD (datO rs) (k + 1) = if (opAt (datO rs) k).kind = 13 then (closeD (datO rs) k).put (.int .i64 (topAt (openAt (datO rs) k))) (.lit (.int .i64 k)) else closeD (datO rs) k := rfl
      have hol := HF.out.deep k (by rw [HLn.out]; omega)
      have hne := hid (HF.out.next k (by rw [HLn.out]; omega))
      have hnx := hid (next_ends HF.out (j := k) (by rw [HLn.out]; omega))
      obtain ⟨⟨⟨kk, i, a, bb, cc, dd, ⟨pw, ph, pl⟩⟩, qA, qn, qc⟩, hr⟩ : ∃ r, rs[k] = r := ⟨_, rfl⟩
      have hkk : (opAt (datO rs) k).kind = kk := by rw [hat, hr]
      rw [hr] at hc
      obtain ⟨c0, c1, c2, c3, c4, c5, c6, c7, c8⟩ := hc
      simp only at c0 c1 c2 c3 c4 c5 c6 c7 c8
      rw [hkk] at hst hdd
      have HSt := hid hst
      have HDd := hid hdd
      have HKk := hid hkk
      have i1 : (0 : Int) ≤ (k : Int) := by omega
      have i2 : (k : Int) < (n : Int) := by omega
      clear hr hat hst hdd hkk
      go_upto_region 6 with fail
      obtain ⟨W1, hW1⟩ : ∃ W1, W1 = wr.alloc (.cells #[.int .i64 kk, .int .i64 i, .int .i64 a, .int .i64 bb, .int .i64 cc, .int .i64 dd, .int .i64 pw, .int .i64 ph, .slice qA qn qc] 51) := ⟨_, rfl⟩
      have hb1 : Below wr.heap.size wr W1 := by rw [hW1]; exact (Below.refl _ _).alloc (Nat.le_refl _) _
      have HO1 : Hid (OpBoxAt wr.heap.size kk i a bb cc dd pw ph qA qn qc W1) := hid (by rw [hW1]; exact heap_alloc_new wr _)
      have HM1 : Hid (W1.ownsMap Try.prog 3 (plainElem (H := Unit) Try.prog 3) wm k (closeD (datO rs) k)) := hid (by rw [hW1]; exact HM.out.alloc _)
      obtain ⟨g, hg⟩ : ∃ g, g = wr.heap.size := ⟨_, rfl⟩
      rw [← hg] at HO1
      rw [← hW1, ← hg]
      have HOw1 := hid (own_keep HO.out hb1)
      have HB1 := hid (bnext HB.out hb1)
      have hmz := Nat.lt_of_lt_of_le hmlt hb1.size
      clear hW1 hg hb1 c0 c1 c2 c3 c4 c5 c6 c7 c8 HB HO HM hmlt hoA
      have c0 := (OpBoxAt.cells HO1.out).1
      rcases (show kk = 12 ∨ kk = 13 ∨ (kk ≠ 12 ∧ kk ≠ 13) by omega) with hw | hw | hw
      · have hs2 := HSt.out
        have hd2 := HDd.out
        rw [hw] at hs2 hd2
        have HS2 := hid (show openAt (datO rs) (k + 1) = openAt (datO rs) k ++ [k] from hs2)
        have HD2 := hid (show closeD (datO rs) (k + 1) = closeD (datO rs) k from hd2)
        clear hs2 hd2
        subst hw
        obtain ⟨st, hst⟩ : ∃ st, openAt (datO rs) k = st := ⟨_, rfl⟩
        rw [hst] at HOw1 HS2 hol ⊢
        clear hst
        go_wp2_with (at_builtin; refine wpList_append_own_at _ rfl _ _ 94 rfl (wm + 1) 3 i0 (.int .i64 0) 1 8 Try.underlying94 hi hz0 hz1 hz2 rfl (by decide) _ _ _ rfl (HOw1.out.alloc _) ⟨W1.heap.size, 0, none⟩ 1 1 [.int .i64 k] rfl rfl ?c1 ?c2 ?c3 ?c4 ?c5 ?_)
        case c1 => exact new_cells W1 #[.int .i64 k] 3
        case c2 => intro u hu; simp at hu; subst hu; rfl
        case c3 => unfold maxLen; omega
        case c4 => omega
        case c5 => simp; omega
        intro v' w6 hown' hgrow _ hvo
        have HO6 := hid (show w6.ownsRow (wm + 1) 3 1 v' (st ++ [k]).length (opC (st ++ [k])) by rw [List.length_append]; unfold opC at hown' ⊢; rw [List.map_append]; exact hown')
        have hnb : some wm ≠ (Value.slice oA st.length oc).ownBlock := by
          intro e
          have := (HOw1.out.lt wm e.symm).1
          omega
        have HM6 := hid ((HM1.out.alloc (.cells #[.int .i64 k] 3)).kept hgrow hnb)
        have HB6 := hid ((HB1.out.alloc HB1.out.size (.cells #[.int .i64 k] 3)).grown hgrow (by have := HB1.out.size; simp; omega) (fun g hg => by have := (HOw1.out.lt g hg).1; omega))
        rw [← HD2.out] at HM6
        rw [← HS2.out] at HO6
        clear hown' hgrow hvo hnb HOw1 HM1 HB1 c0
        go_wp2_with fail
        go_roundw
        case rel => exact ⟨k + 1, by omega, by go_num, HO6, hid (HM6.out.mono (by omega)), HB6⟩
        case measure => simp [intOf]; omega
      · have hs2 := HSt.out
        have hd2 := HDd.out
        rw [hw] at hs2 hd2
        obtain ⟨s, j, hsj, hj, -, -⟩ := hnx.out (HKk.out.trans hw)
        have htop : topAt (openAt (datO rs) k) = j := by unfold topAt; rw [hsj]; simp
        have HS2 := hid (show openAt (datO rs) (k + 1) = s by rw [hs2, hsj]; unfold openStep; rw [if_neg (by decide), if_pos rfl, List.dropLast_concat])
        have HD2 := hid (show closeD (datO rs) (k + 1) = (closeD (datO rs) k).put (.int .i64 j) (.lit (.int .i64 k)) by rw [hd2, if_pos rfl, htop])
        clear hs2 hd2 htop
        subst hw
        rw [hsj] at HOw1 hol
        have hlM : (s ++ [j]).length = s.length + 1 := by simp
        rw [hsj, hlM]
        rw [hlM] at HOw1 hol
        clear hsj hlM
        obtain ⟨M, hM⟩ : ∃ M, s.length = M := ⟨_, rfl⟩
        have HMM := hid hM
        rw [hM] at HOw1 hol ⊢
        clear hM
        obtain ⟨og, rfl⟩ : ∃ og, oA = some ⟨og, 0, none⟩ := by
          rcases HOw1.out.2 with ⟨-, h0⟩ | ⟨g, cap, cur, hv, -⟩
          · omega
          · injection hv with hv
            exact ⟨g, hv⟩
        have hl := HOw1.out.cells (g := og) rfl M (.int .i64 j) (by unfold opC; rw [List.map_append, List.getElem?_append_right (by rw [List.length_map, HMM.out]; exact Nat.le_refl _), List.length_map, HMM.out, Nat.sub_self]; rfl)
        have hlast : W1.cell? ⟨og, M, none⟩ = some (.int .i64 j) := by
          by_cases h0 : M = 0
          · subst h0; simpa [Addr.add] using hl
          · simpa [Addr.add, h0] using hl
        have hpop := ownsRow_pop (last := [.int .i64 j]) (xs := opC s) (by unfold opC; rw [List.length_map, HMM.out, Nat.mul_one]) (show W1.ownsRow (wm + 1) 3 1 (.slice (some ⟨og, 0, none⟩) (M + 1) oc) (M + 1) (opC s ++ [.int .i64 j]) by have h := HOw1.out; unfold opC at h ⊢; rw [List.map_append] at h; exact h)
        have hcap : M + 1 ≤ oc := by obtain ⟨A0, c0, e, -, hh, -⟩ := own_slice HOw1.out; injection e with _ _ e; omega
        have HPop := hid hpop
        have e1 : IntKind.i64.wrap ((M : Int) + 1 - 1) = (M : Int) := by rw [show (M : Int) + 1 - 1 = (M : Int) by omega]; exact IntWalk.i64_in _ (by omega)
        have q1 : (0 : Int) ≤ (M : Int) := by omega
        have q2 : (M : Int) < (M : Int) + 1 := by omega
        have q3 : (M : Int) ≤ (oc : Int) := by omega
        have hwj : (Lit.int .i64 (j : Int)).wf = true := WalkArith.wf_i64 (by omega)
        have hwk : (Lit.int .i64 (k : Int)).wf = true := WalkArith.wf_i64 (by omega)
        have hkey := keyOf_int_mk Try.underlying3 hwj
        clear hl hpop
        go_wp2_with (at_mapUpdate; refine wpList_mapUpdate_own _ rfl _ _ _ 63 rfl 3 3 law_int Try.underlying63 _ wm k _ rfl HM1.out (by unfold maxLen; omega) _ _ _ rfl rfl hkey _ [] (plainElem_int Try.underlying3 hwk) ?_)
        intro w6 hown6 hgrow6
        have HM6 := hid hown6
        have HPop6 := hid (HPop.out.kept hgrow6 (Or.inr (by
          intro e
          have := (HPop.out.lt wm e).1
          omega)))
        have HB6 := hid (HB1.out.grown hgrow6 HB1.out.size (fun g hg => by injection hg with hg; omega))
        rw [← HD2.out] at HM6
        clear hown6 hgrow6 HPop HM1 HB1 HOw1 c0 hlast
        have HO6 : Hid (w6.ownsRow (wm + 1) 3 1 (.slice (some ⟨og, 0, none⟩) M oc) (openAt (datO rs) (k + 1)).length (opC (openAt (datO rs) (k + 1)))) := hid (by rw [HS2.out, HMM.out]; exact HPop6.out)
        clear HPop6
        go_wp2_with fail
        go_roundw
        case rel => exact ⟨k + 1, by omega, by go_num, HO6, HM6, HB6⟩
        case measure => simp [intOf]; omega
      · have hs2 := HSt.out
        have hd2 := HDd.out
        have HS2 := hid (show openAt (datO rs) (k + 1) = openAt (datO rs) k by rw [hs2]; unfold openStep; rw [if_neg hw.1, if_neg hw.2])
        have HD2 := hid (show closeD (datO rs) (k + 1) = closeD (datO rs) k by rw [hd2, if_neg hw.2])
        clear hs2 hd2
        obtain ⟨h1, h2⟩ := hw
        rw [← HD2.out] at HM1
        have HO2 := HOw1.out
        have HO6 : Hid (W1.ownsRow (wm + 1) 3 1 (.slice oA (openAt (datO rs) k).length oc) (openAt (datO rs) (k + 1)).length (opC (openAt (datO rs) (k + 1)))) := hid (by rw [HS2.out]; exact HO2)
        clear HO2 HOw1
        go_wp2_with fail
        go_roundw
        case rel => exact ⟨k + 1, by omega, by go_num, HO6, hid (HM1.out.mono (by omega)), HB1⟩
        case measure => simp [intOf]; omega
    · obtain rfl : k = n := by omega
      have HM2 := HM.out
      rw [← HLn.out] at HM2
      have HMF := hid HM2
      clear HM2 HM
      go_wp2_with fail
      go_ret
      exact ⟨wm, _, rfl, HMF.out, by rw [HLn.out]; omega, hwz, HB.out⟩
end Fb
