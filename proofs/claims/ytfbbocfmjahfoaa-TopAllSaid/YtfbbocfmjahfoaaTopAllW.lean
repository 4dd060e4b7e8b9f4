/- The walk of flickerbooktop.TopAll: it returns true and writes nothing that was there. Conditions: the arguments are well formed. -/
import Derived.Test.YtfbbocfmjahfoaaChunkAll
import Derived.Test.YtfbbocfmjahfoaaTopChunkW
import Derived.Test.YtfbbocfmjahfoaaSameWalk
import Derived.Test.YtfbbocfmjahfoaaOpen2
namespace Fb
open Go Go.Proofs Go.RowKit Go.Sort
theorem Chunks.at2 {w : World} {A : Option Addr} {n : Nat} {l : List (Bs × Bs)} (h : Chunks w A n l) (hn : 0 < n) : ∃ b off, A = some ⟨b, off, none⟩ ∧ b < w.heap.size ∧
    ∀ k (hk : k < l.length), w.cell? ⟨b, off + k * 2, none⟩ = some (.string (strOf l[k].1)) ∧ w.cell? ⟨b, off + k * 2 + 1, none⟩ = some (.string (strOf l[k].2)) := by
  obtain ⟨b, off, e, hb, hc⟩ := h.2.2 hn
  refine ⟨b, off, e, hb, fun k hk => ?_⟩
  have e0 : l[k]? = some l[k] := List.getElem?_eq_getElem hk
  have f := fun j hj => flat_at (enc := chCell) (size := 2) (fun _ => rfl) l k j _ e0 hj
  exact ⟨by have := hc (k * 2 + 0) _ (f 0 (by omega)); simpa using this, by have := hc (k * 2 + 1) _ (f 1 (by omega)); simpa [Nat.add_assoc] using this⟩
theorem Strs.at_ {w : World} {A : Option Addr} {n : Nat} {l : List ByteArray} (h : Strs w A n l) (hn : 0 < n) : ∃ b off, A = some ⟨b, off, none⟩ ∧ b < w.heap.size ∧
    ∀ k (hk : k < l.length), w.cell? ⟨b, off + k, none⟩ = some (.string l[k]) := by
  obtain ⟨b, off, e, hb, hc⟩ := h.2.2 hn
  exact ⟨b, off, e, hb, fun k hk => hc k _ (by rw [List.getElem?_map, List.getElem?_eq_getElem hk]; rfl)⟩
theorem cell_grown {w : World} {p : Addr} {v : Value} (hb : p.block < w.heap.size) (h : w.cell? p = some v) (d : Nat) (os : Array Go.Obj) : (grow (redrawn w d) os).cell? p = some v :=
  ((below_regrown w d os).cell hb).trans h
/-- names and bytes side by side -/
def prs (ns ds : List ByteArray) : List (Bs × Bs) := (ns.zip ds).map fun p => (p.1.data.toList, p.2.data.toList)
theorem prs_len {ns ds : List ByteArray} (h : ns.length ≤ ds.length) : (prs ns ds).length = ns.length := by simp [prs]; omega
theorem prs_at {ns ds : List ByteArray} {k : Nat} (h1 : k < ns.length) (h2 : k < ds.length) (h : k < (prs ns ds).length) : (prs ns ds)[k] = (ns[k].data.toList, ds[k].data.toList) := by simp [prs]
theorem prs_take {ns ds : List ByteArray} {k : Nat} (h1 : k < ns.length) (h2 : k < ds.length) : (prs ns ds).take (k + 1) = (prs ns ds).take k ++ [(ns[k].data.toList, ds[k].data.toList)] := by
  have h : k < (prs ns ds).length := by simp [prs]; omega
  rw [List.take_succ_eq_append_getElem h, prs_at h1 h2]
theorem FineL.snoc {l : List (Bs × Bs)} {p : Bs × Bs} (h : FineL l) (hp : nameB p.1 = true ∧ p.2.length ≤ 65535) : FineL (l ++ [p]) := by
  intro q hq
  rcases List.mem_append.1 hq with hq | hq
  · exact h q hq
  · simp at hq; subst hq; exact hp
theorem chunkF_WAIT : chunkF [87, 65, 73, 84] [] = 0 := by decide
theorem allL_nil (most : Int) : allL [] most = ([], 0) := rfl
theorem wait_len : (strOf (chunkS [87, 65, 73, 84] [])).size = 8 := by rw [strOf_size, chunkS_len (by decide)]; rfl
theorem retAll_nil {l : List (Bs × Bs)} {f : Nat} {w w' : World} {e : Ending} (h : RetAll l f w e w') (hl : l = []) (hf : f = 0) : ∃ A c, e = .returned (.tuple #[.slice A 0 c, .nilIface]) ∧ Below w.heap.size w w' := by
  obtain ⟨A, c, rfl, -, hb⟩ := h
  subst hl hf
  exact ⟨A, c, rfl, hb⟩
theorem retAll_bad {l : List (Bs × Bs)} {f g : Nat} {w w' : World} {e : Ending} (h : RetAll l f w e w') (hl : (l, f) = ([], g)) (hg : g ≠ 0) : ∃ A c, e = .returned (.tuple #[.slice A 0 c, .iface 94 (.int .i64 g)]) ∧ Below w.heap.size w w' := by
  obtain ⟨A, c, rfl, -, hb⟩ := h
  obtain ⟨rfl, rfl⟩ := Prod.mk.inj hl
  exact ⟨A, c, by rw [errV_pos hg]; rfl, hb⟩
theorem retAll_ok {l q : List (Bs × Bs)} {f : Nat} {w w' : World} {e : Ending} (h : RetAll l f w e w') (hl : (l, f) = (q, 0)) : ∃ A c, e = .returned (.tuple #[.slice A q.length c, .nilIface]) ∧ Chunks w' A q.length q ∧ Below w.heap.size w w' := by
  obtain ⟨A, c, rfl, hc, hb⟩ := h
  obtain ⟨rfl, rfl⟩ := Prod.mk.inj hl
  exact ⟨A, c, rfl, hc, hb⟩
set_option maxRecDepth 100000 in
set_option maxHeartbeats 2000000 in
theorem topAll_walk (A B : Option Addr) (n m c d : Nat) (ns ds : List ByteArray) (w : World) (hn : Strs w A n ns) (hd : Strs w B m ds) (bn : n ≤ maxLen) (bm : m ≤ maxLen) :
    Calls Try.prog 9 #[.slice A n c, .slice B m d] w (Ret (.bool true) w) := by
  unfold maxLen at bn bm
  have Hn := hid hn.1
  have Hd := hid hd.1
  have HN := hid hn
  have HD := hid hd
  clear hn hd
  have hc1 := chunkV_fine chunkF_WAIT
  have hc2 := wait_len
  generalize chunkS [87, 65, 73, 84] [] = cw at hc1 hc2
  go_enter Try.func9, Try.ntmps9
  go_wp2_with fail
  refine (cbytes_any [87, 65, 73, 84] [] _ (by decide) (by decide)).mono ?_
  rintro e w1 ⟨rfl, hB1⟩
  rw [hc1]
  clear hc1
  go_wp2_with fail
  refine (all_any [] 0 _ (by decide)).mono ?_
  rintro e w2 he
  obtain ⟨A0, c0, rfl, hb⟩ := retAll_nil he rfl rfl
  have hB2 := bnext hB1 hb
  clear he hb hB1 hc2
  by_cases h20 : 20 < n
  · have h20' : (20 : Int) < (n : Int) := by omega
    go_wp2_with fail
    go_ret
    exact ⟨rfl, hB2⟩
  by_cases hnm : m < n
  · have h20' : ¬ (20 : Int) < (n : Int) := by omega
    have hnm' : (m : Int) < (n : Int) := by omega
    go_wp2_with fail
    go_ret
    exact ⟨rfl, hB2⟩
  have h20' : ¬ (20 : Int) < (n : Int) := by omega
  have hnm' : ¬ (m : Int) < (n : Int) := by omega
  have Hle := hid (show ns.length ≤ ds.length by rw [Hn.out, Hd.out]; omega)
  have Hpl := hid ((prs_len Hle.out).trans Hn.out)
  go_wp2_with fail
  go_loopw [8, 9] (fun s i wr => ∃ k : Nat, k ≤ n ∧ i = .int .i64 k ∧ s = .string (strOf (catL ((prs ns ds).take k))) ∧ (catL ((prs ns ds).take k)).length ≤ 108 * k ∧ FineL ((prs ns ds).take k) ∧ Below w.heap.size w wr) (fun _ i _ => n - (intOf i).toNat)
  case atStart => exact ⟨0, by omega, rfl, rfl, by simp [catL], fun p hp => by simp at hp, hB2⟩
  case round =>
    clear hB2
    obtain ⟨k, hk, rfl, rfl, hcl, hfl, hbel⟩ := hrel
    have Hfl := hid hfl
    clear hfl
    by_cases hlt : k < n
    · have k1 : k < ns.length := by rw [Hn.out]; exact hlt
      have k2 : k < ds.length := by rw [Hd.out]; omega
      obtain ⟨b1, o1, rfl, hb1, hx1⟩ := HN.out.at_ (by omega)
      obtain ⟨b2, o2, rfl, hb2, hx2⟩ := HD.out.at_ (by omega)
      have e1 := (hbel.cell (p := ⟨b1, o1 + k, none⟩) hb1).trans (hx1 k k1)
      have e2 := (hbel.cell (p := ⟨b2, o2 + k, none⟩) hb2).trans (hx2 k k2)
      have Htk := hid (prs_take k1 k2)
      generalize hnk : ns[k] = nk at *
      generalize hdk : ds[k] = dk at *
      clear hx1 hx2 hnk hdk
      have hkm : (k : Int) < (m : Int) := by omega
      by_cases g1 : 10 < nk.size
      · have g1' : (10 : Int) < (nk.size : Int) := by omega
        go_wp2_with fail
        go_ret
        exact ⟨rfl, hbel⟩
      by_cases g2 : 100 < dk.size
      · have g1' : ¬ (10 : Int) < (nk.size : Int) := by omega
        have g2' : (100 : Int) < (dk.size : Int) := by omega
        go_wp2_with fail
        go_ret
        exact ⟨rfl, hbel⟩
      have g1' : ¬ (10 : Int) < (nk.size : Int) := by omega
      have g2' : ¬ (100 : Int) < (dk.size : Int) := by omega
      obtain ⟨nl, rfl⟩ := str_lists nk
      obtain ⟨dl, rfl⟩ := str_lists dk
      rw [strOf_size] at g1 g2
      rw [strOf_data', strOf_data'] at Htk
      have hz := hbel.size
      have i1 : (0 : Int) ≤ (k : Int) := by omega
      have i2 : (k : Int) < (n : Int) := by omega
      go_upto_region 15 with fail
      have F1 := cell_grown (p := ⟨b1, o1 + k, none⟩) (by show b1 < _; omega) e1
      have F2 := cell_grown (p := ⟨b2, o2 + k, none⟩) (by show b2 < _; omega) e2
      have r1 := fun dd os => Ret.regrown (cbytes_any nl dl (grow (redrawn wr dd) os) (by unfold maxLen; omega) (by unfold maxLen; omega))
      have Hf0 := hid (fun h : chunkF nl dl = 0 => chunkV_fine h)
      have Hf1 := hid (fun h : chunkF nl dl ≠ 0 => chunkV_err h)
      by_cases hf : chunkF nl dl = 0
      · rw [Hf0.out hf] at r1
        have hfz := chunkF_zero hf
        have hlen := chunkS_len (d := dl) hfz.1
        have Hst := hid (Htk.out ▸ Hfl.out.snoc (p := (nl, dl)) hfz)
        have hcat : catL ((prs ns ds).take (k + 1)) = catL ((prs ns ds).take k) ++ chunkS nl dl := by rw [Htk.out, catL_snoc]
        have Hcat := hid hcat
        generalize chunkS nl dl = cs at *
        have hap := strOf_append (catL ((prs ns ds).take k)) cs
        have hsz : (strOf (catL ((prs ns ds).take k))).size + (strOf cs).size ≤ 1000000 := by rw [strOf_size, strOf_size, hlen]; omega
        have Hlen := hid hlen
        clear hf hfz hcat hlen
        refine wp_region_quiet_below (by kernel_rfl) (by kernel_rfl) ?_
        repeat (quiet_step (first | (go_at_call 32; exact r1 _ _)))
        (refine wpQuiet_nil ?_; intro _ hw'; obtain ⟨⟨dq, osq⟩, hw''⟩ := hw'; subst hw'')
        have hb3 := bnext hbel (below_regrown wr dq osq)
        clear F1 F2 e1 e2 r1 hbel
        generalize grow (redrawn wr dq) osq = w4 at *
        go_wp2_with fail
        go_roundw
        case rel => exact ⟨k + 1, by omega, by go_num, by rw [Hcat.out], by rw [Hcat.out, List.length_append, Hlen.out]; omega, Hst.out, hb3⟩
        case measure => simp [intOf]; omega
      · rw [Hf1.out hf] at r1
        clear hf
        refine wp_region_quiet_below (by kernel_rfl) (by kernel_rfl) ?_
        repeat (quiet_step (first | (go_at_call 32; exact r1 _ _)))
        (refine wpQuiet_nil ?_; intro _ hw'; obtain ⟨⟨dq, osq⟩, hw''⟩ := hw'; subst hw'')
        have hb3 := bnext hbel (below_regrown wr dq osq)
        clear F1 F2 e1 e2 r1 hbel
        generalize grow (redrawn wr dq) osq = w4 at *
        go_wp2_with fail
        go_ret
        exact ⟨rfl, hb3⟩
    · obtain rfl : k = n := by omega
      have htk : (prs ns ds).take k = prs ns ds := List.take_of_length_le (by rw [Hpl.out]; omega)
      rw [htk] at hcl Hfl
      rw [htk]
      have hca := all_cat (k : Int) (catL (prs ns ds)) (prs ns ds) [] Hfl.out (AllInv.start _ _) (by rw [Hpl.out]; simp)
      have Hca := hid hca
      have Hcb := hid (fun h : 0 < k => all_cat_less ((k : Int) - 1) (catL (prs ns ds)) (prs ns ds) [] Hfl.out (AllInv.start _ _) (by simp; omega) (by rw [Hpl.out]; simp; omega))
      clear hca htk
      go_wp2_with fail
      refine (all_any (catL (prs ns ds)) (k : Int) _ (by omega)).mono ?_
      rintro e w4 he
      obtain ⟨A1, c1, rfl, hch, hb⟩ := retAll_ok (q := prs ns ds) he (by rw [Hca.out]; simp)
      have hB4 := bnext hbel hb
      rw [Hpl.out]
      rw [Hpl.out] at hch
      have HC := hid hch
      clear he hb hbel hch
      go_wp2_with fail
      go_loopw [12] (fun i wr => ∃ j : Nat, j ≤ k ∧ i = .int .i64 j ∧ Below w4.heap.size w4 wr) (fun i _ => k - (intOf i).toNat)
      case atStart => exact ⟨0, by omega, rfl, Below.refl _ _⟩
      case round =>
        obtain ⟨j, hj, rfl, hbel⟩ := hrel
        by_cases hlt2 : j < k
        · have j1 : j < ns.length := by rw [Hn.out]; exact hlt2
          have j2 : j < ds.length := by rw [Hd.out]; omega
          obtain ⟨b1, o1, rfl, hb1, hx1⟩ := HN.out.at_ (by omega)
          obtain ⟨b2, o2, rfl, hb2, hx2⟩ := HD.out.at_ (by omega)
          obtain ⟨b3, o3, rfl, hb3, hx3⟩ := HC.out.at2 (by omega)
          have hbw := bnext hB4 hbel
          have e1 := (hbw.cell (p := ⟨b1, o1 + j, none⟩) hb1).trans (hx1 j j1)
          have e2 := (hbw.cell (p := ⟨b2, o2 + j, none⟩) hb2).trans (hx2 j j2)
          obtain ⟨x3, x4⟩ := hx3 j (by rw [Hpl.out]; exact hlt2)
          rw [prs_at j1 j2, strOf_self'] at x3 x4
          have e3 := (hbel.cell (p := ⟨b3, o3 + j * 2, none⟩) hb3).trans x3
          have e4 := (hbel.cell (p := ⟨b3, o3 + j * 2 + 1, none⟩) hb3).trans x4
          have i1 : (0 : Int) ≤ (j : Int) := by omega
          have i2 : (j : Int) < (k : Int) := by omega
          have i3 : (j : Int) < (m : Int) := by omega
          clear hx1 hx2 hx3 x3 x4 hbw
          go_wp2_with fail
          go_quiet (fail)
          go_wp2_with fail
          go_roundw
          case rel => exact ⟨j + 1, by omega, by go_num, below_drewN hbel _⟩
          case measure => simp [intOf]; omega
        · have hB5 := bnext hB4 hbel
          clear hbel hB4
          by_cases hk0 : k = 0
          · subst hk0
            have hnil : prs ns ds = [] := List.eq_nil_of_length_eq_zero Hpl.out
            rw [hnil]
            rw [show catL [] = [] from rfl]
            go_wp2_with fail
            refine (all_any [] _ _ (by decide)).mono ?_
            rintro e w5 he
            obtain ⟨A2, c2, rfl, hb⟩ := retAll_nil he rfl rfl
            have hB6 := bnext hB5 hb
            clear he
            go_wp2_with fail
            go_ret
            exact ⟨rfl, hB6⟩
          · have hk0' : ((k : Int) == 0) = false := by simp; omega
            go_wp2_with fail
            refine (all_any (catL (prs ns ds)) _ _ (by omega)).mono ?_
            rintro e w5 he
            obtain ⟨A2, c2, rfl, hb⟩ := retAll_bad he (Hcb.out (by omega)) (by decide)
            have hB6 := bnext hB5 hb
            clear he hb hB5
            go_wp2_with fail
            rw [show (Value.iface 94 (.int .i64 2)) = errV 2 from rfl]
            refine (number_any 2 _ (by decide)).mono ?_
            rintro e w6 ⟨rfl, hb⟩
            go_wp2_with fail
            go_ret
            exact ⟨rfl, bnext hB6 hb⟩
theorem topAll_row (w : World) (a : FAt (List ByteArray)) (ha : Strs w a.A a.n a.x ∧ a.n ≤ a.c ∧ a.c ≤ maxLen ∧ ∀ q ∈ a.x, q.size ≤ maxLen) (b : FAt (List ByteArray)) (hb : Strs w b.A b.n b.x ∧ b.n ≤ b.c ∧ b.c ≤ maxLen ∧ ∀ q ∈ b.x, q.size ≤ maxLen) :
    Calls Try.prog 9 #[.slice a.A a.n a.c, .slice b.A b.n b.c] w (Ret (.bool true) w) :=
  topAll_walk a.A b.A a.n b.n a.c b.c a.x b.x w ha.1 hb.1 (by have := ha.2.1; have := ha.2.2.1; omega) (by have := hb.2.1; have := hb.2.2.1; omega)
end Fb
