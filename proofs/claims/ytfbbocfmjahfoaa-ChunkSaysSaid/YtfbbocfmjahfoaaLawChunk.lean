/- The walk of flickerbooklaw.ChunkSays: it returns true and writes nothing that was there. Conditions: the texts are no longer than a Go text may be. -/
import Derived.Test.YtfbbocfmjahfoaaChunkAll
import Derived.Test.YtfbbocfmjahfoaaTopChunkW
import Derived.Test.YtfbbocfmjahfoaaSameWalk
namespace Fb
open Go Go.Proofs Go.RowKit
set_option maxRecDepth 100000 in
set_option maxHeartbeats 800000 in
theorem chunks_any (w : World) : Calls Try.prog 29 #[] w (Ret (.bool true) w) := by
  have hf : chunkF [87, 65, 73, 84] [120] = 0 := by decide
  have hV := hid (firstV_chunk (r := [121]) hf)
  have hC := hid (chunkV_fine hf)
  have hlen := chunkS_len (n := [87, 65, 73, 84]) (d := [120]) (by decide)
  have happ : strOf (chunkS [87, 65, 73, 84] [120]) ++ ⟨#[121]⟩ = strOf (chunkS [87, 65, 73, 84] [120] ++ [121]) := strOf_append _ [121]
  have hsz : (strOf (chunkS [87, 65, 73, 84] [120])).size + (⟨#[121]⟩ : ByteArray).size ≤ 1000000 := by rw [strOf_size, hlen]; decide
  have Hl := hid hlen
  clear hlen hf
  go_enter Try.func29, Try.ntmps29
  go_wp2_with fail
  refine (cbytes_any [87, 65, 73, 84] [120] _ (by decide) (by decide)).mono ?_
  rintro e w1 ⟨rfl, hB1⟩
  rw [hC.out]
  generalize chunkS [87, 65, 73, 84] [120] = cs at *
  go_wp2_with fail
  refine (first_any _ _ (by rw [strOf_size]; simp; rw [Hl.out]; decide)).mono ?_
  rintro e w2 ⟨rfl, hb⟩
  have hB2 := bnext hB1 hb
  clear hb hB1
  rw [strOf_data', hV.out]
  rw [show strOf [87, 65, 73, 84] = ⟨#[87, 65, 73, 84]⟩ from rfl, show strOf [120] = ⟨#[120]⟩ from rfl, show strOf [121] = ⟨#[121]⟩ from rfl]
  have hB := hB2.alloc hB2.size (.cells #[.string ⟨#[87, 65, 73, 84]⟩, .string ⟨#[120]⟩] 49)
  go_wp2_with fail
  refine (same_any 0 0 _ (by decide)).mono ?_
  rintro e w3 ⟨rfl, hb⟩
  rw [show sameB 0 0 = true from rfl]
  have hB3 := bnext hB hb
  have c0 := hb.cell (p := ⟨w2.heap.size, 0, none⟩) (by simp)
  have c1 := hb.cell (p := ⟨w2.heap.size, 1, none⟩) (by simp)
  simp at c0 c1
  have hz := hb.size
  clear hb hB hB2
  go_wp2_with fail
  refine (same_any 0 0 _ (by decide)).mono ?_
  rintro e w4 ⟨rfl, hb⟩
  rw [show sameB 0 0 = true from rfl]
  have hB4 := bnext hB3 hb
  have d0 := (hb.cell (p := ⟨w2.heap.size, 0, none⟩) (by simp at hz; simp; omega)).trans c0
  have d1 := (hb.cell (p := ⟨w2.heap.size, 1, none⟩) (by simp at hz; simp; omega)).trans c1
  clear c0 c1 hb hB3
  go_wp2_with fail
  go_ret
  exact ⟨rfl, hB4⟩
theorem allL_step {S L : Bs} {most : Int} {acc : List (Bs × Bs)} {l : List (Bs × Bs)} (h : AllInv S most (firstR L) (acc ++ [(firstA L, firstD L)])) (h0 : allL S most = (l, 0)) : ∃ (hk : acc.length < l.length), l[acc.length].1 = firstA L ∧ l[acc.length].2 = firstD L := by
  obtain ⟨r, hr⟩ := h.pre (by rw [h0])
  rw [h0] at hr
  simp only at hr
  subst hr
  refine ⟨by simp, ?_, ?_⟩ <;> simp
/-- a chunk's cells in a row of chunks -/
theorem Chunks.at_ {w : World} {A : Option Addr} {n : Nat} {l : List (Bs × Bs)} (h : Chunks w A n l) (hn : 0 < n) : ∃ b off, A = some ⟨b, off, none⟩ ∧ b < w.heap.size ∧
    ∀ k (hk : k < l.length), w.cell? ⟨b, off + k * 2, none⟩ = some (.string (strOf l[k].1)) ∧ w.cell? ⟨b, off + k * 2 + 1, none⟩ = some (.string (strOf l[k].2)) := by
  obtain ⟨b, off, e, hb, hc⟩ := h.2.2 hn
  refine ⟨b, off, e, hb, fun k hk => ?_⟩
  have e0 : l[k]? = some l[k] := List.getElem?_eq_getElem hk
  have f := fun j hj => flat_at (enc := chCell) (size := 2) (fun _ => rfl) l k j _ e0 hj
  exact ⟨by have := hc (k * 2 + 0) _ (f 0 (by omega)); simpa using this, by have := hc (k * 2 + 1) _ (f 1 (by omega)); simpa [Nat.add_assoc] using this⟩
set_option maxRecDepth 100000 in
set_option maxHeartbeats 800000 in
/-- what is asked ahead of the great part -/
theorem chunkSays_big (n d S : ByteArray) (most : Int) (w : World) (h : 10 < n.size ∨ (n.size ≤ 10 ∧ 66000 < d.size) ∨ (n.size ≤ 10 ∧ d.size ≤ 66000 ∧ 1000 < S.size)) :
    Calls Try.prog 6 #[.string n, .string d, .string S, .int .i64 most] w (Ret (.bool true) w) := by
  rcases h with h | ⟨h0, h⟩ | ⟨h0, h1, h⟩
  all_goals
    go_enter Try.func6, Try.ntmps6
    go_wp2_with fail
    refine (chunks_any _).mono ?_
    rintro e w1 ⟨rfl, hb⟩
    go_wp2_with fail
    go_ret
    exact ⟨rfl, hb⟩
set_option maxRecDepth 100000 in
set_option maxHeartbeats 2000000 in
theorem chunkSays_walk (n d S : Bs) (most : Int) (w : World) (hn : n.length ≤ 10) (hd : d.length ≤ 66000) (hS : S.length ≤ 1000) :
    Calls Try.prog 6 #[.string (strOf n), .string (strOf d), .string (strOf S), .int .i64 most] w (Ret (.bool true) w) := by
  have sn := strOf_size n
  have sd := strOf_size d
  have sS := strOf_size S
  go_enter Try.func6, Try.ntmps6
  go_wp2_with fail
  refine (chunks_any _).mono ?_
  rintro e w1 ⟨rfl, hB1⟩
  go_wp2_with fail
  refine (sum_any _ _ (by rw [sS]; unfold maxLen; omega)).mono ?_
  rintro e w2 ⟨rfl, hb⟩
  have hB2 := bnext hB1 hb
  clear hb hB1
  rw [strOf_data']
  unfold sumV
  go_wp2_with fail
  refine (rsum_any _ _ (by rw [sS]; unfold maxLen; omega)).mono ?_
  rintro e w3 ⟨rfl, hb⟩
  have hB3 := bnext hB2 hb
  clear hb hB2
  rw [strOf_data']
  unfold sumV
  generalize (sumL S).1 = q0
  generalize (sumL S).2 = q1
  go_wp2_with fail
  refine (cbytes_any n d _ (by unfold maxLen; omega) (by unfold maxLen; omega)).mono ?_
  rintro e w4 ⟨rfl, hb⟩
  have hB4 := bnext hB3 hb
  clear hb hB3
  unfold chunkV
  go_wp2_with fail
  refine (rcbytes_any n d _ (by unfold maxLen; omega) (by unfold maxLen; omega)).mono ?_
  rintro e w5 ⟨rfl, hb⟩
  have hB5 := bnext hB4 hb
  clear hb hB4
  unfold chunkN
  have hcf := chunkF_le n d
  generalize chunkF n d = cf at *
  generalize strOf (chunkB n d) = cs
  go_wp2_with fail
  refine (name_any _ _ (by rw [sn]; unfold maxLen; omega)).mono ?_
  rintro e w6 ⟨rfl, hb⟩
  have hB6 := bnext hB5 hb
  clear hb hB5
  rw [strOf_data']
  go_wp2_with fail
  refine (rname_any _ _ (by rw [sn]; unfold maxLen; omega)).mono ?_
  rintro e w7 ⟨rfl, hb⟩
  have hB7 := bnext hB6 hb
  clear hb hB6
  rw [strOf_data']
  generalize nameB n = nb
  cases nb
  all_goals
    go_wp2_with fail
    refine (same_any _ _ _ (by omega)).mono ?_
    rintro e w8 ⟨rfl, hb⟩
    have hB8 := bnext hB7 hb
    clear hb hB7
    rw [sameB_self]
    go_wp2_with fail
    refine (first_any _ _ (by rw [sS]; omega)).mono ?_
    rintro e w9 ⟨rfl, hb⟩
    have hB9 := bnext hB8 hb
    clear hb hB8
    rw [strOf_data']
    unfold firstV
    have hff := firstF_le S
    generalize hgf : firstF S = ff at *
    generalize hga : strOf (firstA S) = fa at *
    generalize hgd : strOf (firstD S) = fd at *
    generalize hgr : strOf (firstR S) = fr at *
    have HG := hid (show firstVN S = .tuple #[.string fa, .string fd, .string fr, .int .i64 ff] by unfold firstVN; rw [hgf, hga, hgd, hgr])
    clear hgf hga hgd hgr
    have hB10 := hB9.alloc hB9.size (.cells #[.string fa, .string fd] 49)
    go_wp2_with fail
    refine (rfirst_any _ _ (by rw [sS]; omega)).mono ?_
    rintro e w10 ⟨rfl, hb⟩
    have hB11 := bnext hB10 hb
    have c0 := hb.cell (p := ⟨w9.heap.size, 0, none⟩) (by simp)
    have c1 := hb.cell (p := ⟨w9.heap.size, 1, none⟩) (by simp)
    simp at c0 c1
    clear hb hB9 hB10
    rw [strOf_data', HG.out]
    clear HG
    go_wp2_with fail
    refine (same_any _ _ _ (by omega)).mono ?_
    rintro e w11 ⟨rfl, hb⟩
    have hB12 := bnext hB11 hb
    clear hb hB11 c0 c1
    rw [sameB_self]
    go_wp2_with fail
    refine (all_any S most _ (by omega)).mono ?_
    rintro e w12 ⟨A, c, rfl, hch, hb⟩
    have hB := bnext hB12 hb
    clear hb hB12 hff hcf hn hd sn sd
    obtain ⟨l, f, hlf⟩ : ∃ l f, allL S most = (l, f) := ⟨_, _, rfl⟩
    have hle := allL_le S most
    rw [hlf] at hch hle
    rw [hlf]
    simp only at hle hch
    have HL := hid hlf
    clear hlf
    by_cases hf : f = 0
    · subst hf
      rw [errV_zero]
      clear hle
      simp only
      go_wp2_with fail
      go_loopw [2, 27] (fun s i wr => ∃ (L : Bs) (acc : List (Bs × Bs)), s = .string (strOf L) ∧ i = .int .i64 acc.length ∧ 8 * acc.length + L.length ≤ 1000 ∧ AllInv S most L acc ∧ (L = [] → acc = []) ∧ Chunks wr A l.length l ∧ Below w.heap.size w wr) (fun s _ _ => strLen s)
      case atStart => exact ⟨S, [], rfl, rfl, by simp; omega, AllInv.start _ _, fun _ => rfl, hch, hB⟩
      case round =>
        clear hch hB
        obtain ⟨L, acc, rfl, rfl, hlen, HI, hemp, hch, hbel⟩ := hrel
        by_cases hL : L = []
        · have h1 := hemp hL
          have h2 := HI.done hL
          rw [HL.out, h1] at h2
          have h3 : l = [] := by injection h2
          subst h3
          have hs : (strOf L).toList = [] := by rw [strOf_list']; exact hL
          clear HI hemp HL h2 h1 hL
          go_wp2_with fail
          go_ret
          exact ⟨rfl, hbel⟩
        · have hs := strOf_empty hL
          have hs' : ¬ (strOf L).toList = [] := by rw [strOf_list']; exact hL
          have hm : (acc.length : Int) ≠ most := by
            intro h
            have := HI.many hL h
            rw [HL.out] at this
            injection this with _ h
            omega
          have hf : firstF L = 0 := by
            by_cases hf : firstF L = 0
            · exact hf
            · have := HI.bad hL hm hf
              rw [HL.out] at this
              injection this with _ h
              omega
          have HI' := HI.step hL hm hf
          obtain ⟨hk, hk1, hk2⟩ := allL_step HI' HL.out
          obtain ⟨b, off, rfl, hbs, hcs⟩ := hch.at_ (by omega)
          have hcell := hcs acc.length hk
          rw [hk1, hk2] at hcell
          obtain ⟨hc0, hc1⟩ := hcell
          have hm' : ((acc.length : Int) == most) = false := by simpa using hm
          have hlr := firstR_len hf
          have hk' : (acc.length : Int) < (l.length : Int) := by omega
          clear HI hL hm hemp hcs hk1 hk2
          go_wp2_with fail
          refine (rfirst_any _ _ (by rw [strOf_size]; omega)).mono ?_
          rintro e w13 ⟨rfl, hb⟩
          have hbel' := bnext hbel hb
          have hch' : Chunks w13 (some ⟨b, off, none⟩) l.length l := ⟨hch.1, hch.2.below hb⟩
          have d0 := (hb.cell (p := ⟨b, off + acc.length * 2, none⟩) hbs).trans hc0
          have d1 := (hb.cell (p := ⟨b, off + acc.length * 2 + 1, none⟩) hbs).trans hc1
          clear hb hbel hch hc0 hc1
          rw [strOf_data']
          unfold firstVN
          rw [hf]
          clear hf
          generalize firstA L = LA at *
          generalize firstD L = LD at *
          generalize firstR L = LR at *
          by_cases hR : LR = []
          · have h2 := HI'.done hR
            rw [HL.out] at h2
            have h3 : l.length = acc.length + 1 := by injection h2 with h2 _; rw [h2]; simp
            have h4 : ((l.length : Int) == (acc.length : Int) + 1) = true := by rw [h3]; simp
            have hrs : (strOf LR).toList = [] := by rw [strOf_list']; exact hR
            clear h2 h3 hR HL HI' hlr
            go_wp2_with fail
            go_ret
            exact ⟨rfl, hbel'⟩
          · have hrs := strOf_empty hR
            have hrs' : ¬ (strOf LR).toList = [] := by rw [strOf_list']; exact hR
            have hR' : LR = [] → acc ++ [(LA, LD)] = [] := fun h => absurd h hR
            have HR := hid hR'
            clear hR' hR
            go_wp2_with fail
            go_roundw
            case rel => exact ⟨LR, acc ++ [(LA, LD)], rfl, by simp, by simp; omega, HI', HR.out, hch', hbel'⟩
            case measure => simp [strLen, strOf_size]; omega
    · obtain rfl : l = [] := hle.2 hf
      have hf8 := hle.1
      rw [errV_pos hf]
      clear hle hch
      go_wp2_with fail
      go_loopw [2, 27] (fun s i wr => ∃ (L : Bs) (acc : List (Bs × Bs)), s = .string (strOf L) ∧ i = .int .i64 acc.length ∧ 8 * acc.length + L.length ≤ 1000 ∧ AllInv S most L acc ∧ Below w.heap.size w wr) (fun s _ _ => strLen s)
      case atStart => exact ⟨S, [], rfl, rfl, by simp; omega, AllInv.start _ _, hB⟩
      case round =>
        clear hB
        obtain ⟨L, acc, rfl, rfl, hlen, HI, hbel⟩ := hrel
        have hL : L ≠ [] := by
          intro hL
          have h2 := HI.done hL
          rw [HL.out] at h2
          injection h2 with _ h2
          exact hf h2
        have hs := strOf_empty hL
        have hs' : ¬ (strOf L).toList = [] := by rw [strOf_list']; exact hL
        by_cases hm : (acc.length : Int) = most
        · have hm' : ((acc.length : Int) == most) = true := by simpa using hm
          have h2 := HI.many hL hm
          rw [HL.out] at h2
          have h3 : f = 2 := by injection h2
          subst h3
          clear HI HL hL hm h2
          go_wp2_with fail
          rw [← errV_pos (show (2 : Nat) ≠ 0 by decide)]
          refine (same_any 2 2 _ (by decide)).mono ?_
          rintro e w13 ⟨rfl, hb⟩
          rw [show sameB 2 2 = true from rfl]
          go_wp2_with fail
          go_ret
          exact ⟨rfl, bnext hbel hb⟩
        · have hm' : ((acc.length : Int) == most) = false := by simpa using hm
          go_wp2_with fail
          refine (rfirst_any _ _ (by rw [strOf_size]; omega)).mono ?_
          rintro e w13 ⟨rfl, hb⟩
          have hbel' := bnext hbel hb
          clear hb hbel
          rw [strOf_data']
          unfold firstVN
          by_cases hg : firstF L = 0
          · have HI' := HI.step hL hm hg
            have hlr := firstR_len hg
            rw [hg]
            clear hg HI hm hL
            generalize firstA L = LA at *
            generalize firstD L = LD at *
            generalize firstR L = LR at *
            have hR : LR ≠ [] := by
              intro hR
              have h2 := HI'.done hR
              rw [HL.out] at h2
              injection h2 with _ h2
              exact hf h2
            have hrs := strOf_empty hR
            have hrs' : ¬ (strOf LR).toList = [] := by rw [strOf_list']; exact hR
            clear hR
            go_wp2_with fail
            go_roundw
            case rel => exact ⟨LR, acc ++ [(LA, LD)], rfl, by simp, by simp; omega, HI', hbel'⟩
            case measure => simp [strLen, strOf_size]; omega
          · have h2 := HI.bad hL hm hg
            rw [HL.out] at h2
            have h3 : f = firstF L := by injection h2
            have hpos : (0 : Int) < ((f : Nat) : Int) := by omega
            rw [← h3]
            clear h2 h3 hg HI hm hL HL
            go_wp2_with fail
            rw [← errV_pos hf]
            refine (same_any f f _ (by omega)).mono ?_
            rintro e w14 ⟨rfl, hb⟩
            rw [sameB_self]
            go_wp2_with fail
            go_ret
            exact ⟨rfl, bnext hbel' hb⟩
theorem chunkSays_row (w : World) (n : ByteArray) (hn : n.size ≤ maxLen) (d : ByteArray) (hd : d.size ≤ maxLen) (S : ByteArray) (hS : S.size ≤ maxLen) (most : Int) (_hm : (Lit.int .i64 most).wf = true) :
    Calls Try.prog 6 #[.string n, .string d, .string S, .int .i64 most] w (Ret (.bool true) w) := by
  unfold maxLen at hn hd hS
  by_cases h : 10 < n.size ∨ (n.size ≤ 10 ∧ 66000 < d.size) ∨ (n.size ≤ 10 ∧ d.size ≤ 66000 ∧ 1000 < S.size)
  · exact chunkSays_big n d S most w h
  · obtain ⟨n, rfl⟩ := str_lists n
    obtain ⟨d, rfl⟩ := str_lists d
    obtain ⟨S, rfl⟩ := str_lists S
    rw [strOf_size, strOf_size, strOf_size] at h
    exact chunkSays_walk n d S most w (by omega) (by omega) (by omega)
end Fb
