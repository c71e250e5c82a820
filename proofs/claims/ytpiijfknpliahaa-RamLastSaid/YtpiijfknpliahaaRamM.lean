/- Contract of Get. Conditions: the receiver is a memory. -/
import Derived.Test.YtpiijfknpliahaaRamL
namespace Go.Proofs.Ytpiijfknpliahaa
open Go.RowKit
set_option maxRecDepth 100000
attribute [local go_sem] Oper.semAt_some

variable {ro : Nat → Nat} {w w' : World} {r lim used : Nat} {L P X : Ents}
set_option maxHeartbeats 2000000 in
theorem Get_hit (h : RamAt ro w r lim used L P X) (hn : L.length ≤ 1073741824) (k i : Nat) (p : Nat × It) (hf : firstAt (hasK k) L = some i) (hp : L[i]? = some p) :
    Calls Try.prog 15 #[.pointer (some ⟨r, 0, none⟩), .agg (keyR k).toArray] w fun e w' => ∃ v ro', e = .returned (.tuple #[v, .bool true]) ∧ RamAt ro' w' r lim used (L.eraseIdx i ++ [(p.1, hitI p.2)]) P X ∧ Keeps (fun b => ro b ≠ 0) w w' ∧ Grow ro ro' w ∧
      SlO w' v 5 1 p.2.b.length (bytesV p.2.b) ∧ ∀ g, blkOf v = some g → w.heap.size ≤ g ∧ ro' g = 0 := by
  have hk1 : Keeps (fun _ => False) w (w.alloc (.cells (keyR k).toArray 30)) := Keeps.alloc _ _ _
  have hr0 : ¬ ro w.heap.size ≠ 0 := fun e => by have := h.lt _ e; omega
  have H := Lib.hid (h.below hk1)
  have HB := Lib.hid (Blk.new w (keyR k) 30)
  have HF := Lib.hid hf
  have HP := Lib.hid hp
  clear hf hp
  have HK := Lib.hid hk1
  clear h hk1
  go_enter Try.func15, Try.ntmps15
  go_wp2
  have hD0 := H.out.below (Keeps.drew (fun _ => False) _)
  have hS0 : Blk (w.alloc (.cells (keyR k).toArray 30)).drew w.heap.size (keyR k) 30 := HB.out.drew
  refine wp_region_held_drew (S := fun w' => Blk w' w.heap.size (keyR k) 30) (by kernel_rfl) hS0 (fun _ => ?_)
  refine take_at 0 (some 8) (.pointer (some ⟨r, 0, none⟩)) rfl rfl (by kernel_rfl) (by kernel_rfl) (by kernel_rfl) (fun _ _ _ h => h) (.inl ⟨by rfl, fun w' hS => ?_⟩) hS0 ?_
  · go_simp
  try simp only [Act.put, List.setIfInBounds_toArray, List.set_cons_zero, List.set_cons_succ]
  refine take_at 1 (some 9) (.pointer (some ⟨r, 0, none⟩)) rfl rfl (by kernel_rfl) (by kernel_rfl) (by kernel_rfl) (fun _ _ _ h => h) (.inl ⟨by rfl, fun w' hS => ?_⟩) hS0 ?_
  · go_simp
  try simp only [Act.put, List.setIfInBounds_toArray, List.set_cons_zero, List.set_cons_succ]
  refine take_at 2 (some 10) (.pointer (some ⟨r, 2, none⟩)) rfl rfl (by kernel_rfl) (by kernel_rfl) (by kernel_rfl) (fun _ _ _ h => h) (.inl ⟨by rfl, fun w' hS => ?_⟩) hS0 ?_
  · go_simp
  try simp only [Act.put, List.setIfInBounds_toArray, List.set_cons_zero, List.set_cons_succ]
  refine take_at 3 (some 11) (.agg (keyR k).toArray) rfl rfl (by kernel_rfl) (by kernel_rfl) (by kernel_rfl) (fun _ _ _ h => h) (.inl ⟨by rfl, fun w' hS => ?_⟩) hS0 ?_
  · exact run_load_part (hS.part 0 (keyR k) (by simp [keyR])) 30 _ Try.underlying30 rfl (sizeKey _) _ _ (.tmp 3) rfl rfl
  try simp only [Act.put, List.setIfInBounds_toArray, List.set_cons_zero, List.set_cons_succ]
  refine wpAnyH_all (rs := [4]) (by kernel_rfl) (by simp) ?_
  intro i4 hi4
  obtain rfl : i4 = 4 := by simpa using hi4
  refine call_atG (some 12) rfl rfl rfl 43 #[.pointer (some ⟨r, 2, none⟩), .agg (keyR k).toArray] ?_ ?_
  · go_simp
  refine (takeL_some hD0 hn k i p HF.out HP.out).mono ?_
  rintro e w4 ⟨rfl, hR4, hK4⟩
  have hS4 : Blk w4 w.heap.size (keyR k) 30 := hS0.keeps hK4 hr0
  refine ⟨_, rfl, hS4, ?_⟩
  try simp only [Act.put, List.setIfInBounds_toArray, List.set_cons_zero, List.set_cons_succ]
  refine take_at 5 (some 6) (.pointer (some ⟨p.1, 0, none⟩)) rfl rfl (by kernel_rfl) (by kernel_rfl) (by kernel_rfl) (fun _ _ _ h => h) (.inl ⟨by rfl, fun w' hS => ?_⟩) hS4 ?_
  · go_simp
  try simp only [Act.put, List.setIfInBounds_toArray, List.set_cons_zero, List.set_cons_succ]
  refine wpAnyH_done (by kernel_rfl) ?_ _
  have R4 := Lib.hid hR4
  have K4 := Lib.hid (((HK.out.mono (fun _ h => h.elim)).trans (Keeps.drew (fun b => ro b ≠ 0) _)).trans hK4)
  clear hS4 hS0 hK4 hR4 hD0
  go_wp2_with fail
  refine (hit_X R4.out).mono ?_
  rintro e w5 ⟨rfl, hR5, hK5⟩
  obtain ⟨vl, vp, hd⟩ := hR5.head
  obtain ⟨v', w6, hrun, hown, hk6, hbk⟩ := push_core hd.sl (by rw [List.length_eraseIdx]; split <;> omega) p.1
  obtain ⟨ro', g1, g2, g3⟩ := hR5.pushL hd hown hk6 hbk
  have c5 := hd.blk.cell (j := 2) rfl
  have hb6 : Blk w6 r [.int .i64 lim, .int .i64 used, vl, vp] 56 := hd.blk.keeps hk6 (fun e => by have := hd.rl _ e; have := hR5.rr; omega)
  have c6 := hb6.cell (j := 2) rfl
  have f6 := hb6.frozen 2
  obtain ⟨va, vc, rfl, _⟩ := hown.form
  obtain ⟨pa, pc, rfl, _⟩ := hd.sl.form
  have he := g1.ents (p.1, hitI p.2) (by simp)
  obtain ⟨vb, hblk, hvb, _⟩ := he.ex
  have cb := hblk.cell (ent_b (hitI p.2) vb)
  obtain ⟨ba, bc, rfl, _⟩ := hvb.form
  have HCL := Lib.hid (Clone_any _ _ p.2.b hvb.slr he.b1)
  have HR := Lib.hid hrun
  have G1 := Lib.hid g1
  have G2 := Lib.hid ((K4.out.trans hK5).trans g2)
  have G3 := Lib.hid g3
  have HS5 := Lib.hid (Nat.le_trans K4.out.size hK5.size)
  clear g1 g2 g3 hrun hown hk6 hbk hb6 hd hR5 hK5 he hblk hvb
  go_wp2_with (first | (refine wpList_runAppend rfl (.tmp 21) (.tmp 23) 54 54 rfl _ w6 (by exact HR.out) ?_))
  refine HCL.out.mono ?_
  rintro e w7 ⟨v7, rfl, h7, hk7, hf7⟩
  obtain ⟨xa, xc, rfl, _⟩ := h7.form
  have H7 := Lib.hid h7
  have G7 := Lib.hid (G1.out.below hk7)
  have F7 := Lib.hid hf7
  have K7 := Lib.hid (G2.out.trans (hk7.mono (fun _ h => h.elim)))
  clear h7 hk7 hf7
  go_wp2
  go_ret2
  refine ⟨_, ro', rfl, G7.out, K7.out, ⟨fun b hb => G3.out.1 b (by have := HS5.out; omega), fun b hb => by have := G3.out.2 b hb; have := HS5.out; omega⟩, H7.out, fun g hg => ?_⟩
  have h9 := F7.out g hg
  have h10 : ro' g = 0 := by
    have := G1.out.lt g
    by_cases h0 : ro' g = 0
    · exact h0
    · have := this h0; omega
  exact ⟨by have := G2.out.size; omega, h10⟩

set_option maxHeartbeats 2000000 in
theorem Get_past (h : RamAt ro w r lim used L P X) (hn : L.length ≤ 1073741824) (hn2 : P.length ≤ 1073741824) (k i : Nat) (p : Nat × It) (hl : firstAt (hasK k) L = none) (hf : firstAt (hasK k) P = some i) (hp : P[i]? = some p) :
    Calls Try.prog 15 #[.pointer (some ⟨r, 0, none⟩), .agg (keyR k).toArray] w fun e w' => e = .returned (.tuple #[.slice none 0 0, .bool false]) ∧ RamAt ro w' r lim used L (P.set i (p.1, hitI p.2)) X ∧ Keeps (fun b => ro b ≠ 0) w w' := by
  have hk1 : Keeps (fun _ => False) w (w.alloc (.cells (keyR k).toArray 30)) := Keeps.alloc _ _ _
  have hr0 : ¬ ro w.heap.size ≠ 0 := fun e => by have := h.lt _ e; omega
  have H := Lib.hid (h.below hk1)
  have HB := Lib.hid (Blk.new w (keyR k) 30)
  have HL := Lib.hid hl
  have HFP := Lib.hid hf
  have HP := Lib.hid hp
  clear hf hp hl
  have HK := Lib.hid hk1
  clear h hk1
  go_enter Try.func15, Try.ntmps15
  go_wp2
  have hD0 := H.out.below (Keeps.drew (fun _ => False) _)
  have hS0 : Blk (w.alloc (.cells (keyR k).toArray 30)).drew w.heap.size (keyR k) 30 := HB.out.drew
  refine wp_region_held_drew (S := fun w' => Blk w' w.heap.size (keyR k) 30) (by kernel_rfl) hS0 (fun _ => ?_)
  refine take_at 0 (some 8) (.pointer (some ⟨r, 0, none⟩)) rfl rfl (by kernel_rfl) (by kernel_rfl) (by kernel_rfl) (fun _ _ _ h => h) (.inl ⟨by rfl, fun w' hS => ?_⟩) hS0 ?_
  · go_simp
  try simp only [Act.put, List.setIfInBounds_toArray, List.set_cons_zero, List.set_cons_succ]
  refine take_at 1 (some 9) (.pointer (some ⟨r, 0, none⟩)) rfl rfl (by kernel_rfl) (by kernel_rfl) (by kernel_rfl) (fun _ _ _ h => h) (.inl ⟨by rfl, fun w' hS => ?_⟩) hS0 ?_
  · go_simp
  try simp only [Act.put, List.setIfInBounds_toArray, List.set_cons_zero, List.set_cons_succ]
  refine take_at 2 (some 10) (.pointer (some ⟨r, 2, none⟩)) rfl rfl (by kernel_rfl) (by kernel_rfl) (by kernel_rfl) (fun _ _ _ h => h) (.inl ⟨by rfl, fun w' hS => ?_⟩) hS0 ?_
  · go_simp
  try simp only [Act.put, List.setIfInBounds_toArray, List.set_cons_zero, List.set_cons_succ]
  refine take_at 3 (some 11) (.agg (keyR k).toArray) rfl rfl (by kernel_rfl) (by kernel_rfl) (by kernel_rfl) (fun _ _ _ h => h) (.inl ⟨by rfl, fun w' hS => ?_⟩) hS0 ?_
  · exact run_load_part (hS.part 0 (keyR k) (by simp [keyR])) 30 _ Try.underlying30 rfl (sizeKey _) _ _ (.tmp 3) rfl rfl
  try simp only [Act.put, List.setIfInBounds_toArray, List.set_cons_zero, List.set_cons_succ]
  refine wpAnyH_all (rs := [4]) (by kernel_rfl) (by simp) ?_
  intro i4 hi4
  obtain rfl : i4 = 4 := by simpa using hi4
  refine call_atG (some 12) rfl rfl rfl 43 #[.pointer (some ⟨r, 2, none⟩), .agg (keyR k).toArray] ?_ ?_
  · go_simp
  refine (takeL_none hD0 hn k HL.out).mono ?_
  rintro e w4 ⟨rfl, hK4⟩
  have hS4 : Blk w4 w.heap.size (keyR k) 30 := hS0.keeps hK4 id
  refine ⟨_, rfl, hS4, ?_⟩
  try simp only [Act.put, List.setIfInBounds_toArray, List.set_cons_zero, List.set_cons_succ]
  refine take_at 5 (some 6) (.pointer none) rfl rfl (by kernel_rfl) (by kernel_rfl) (by kernel_rfl) (fun _ _ _ h => h) (.inl ⟨by rfl, fun w' hS => ?_⟩) hS4 ?_
  · go_simp
  try simp only [Act.put, List.setIfInBounds_toArray, List.set_cons_zero, List.set_cons_succ]
  refine wpAnyH_done (by kernel_rfl) ?_ _
  have H4 := Lib.hid (hD0.below hK4)
  have HB4 := Lib.hid hS4
  have K4 := Lib.hid ((HK.out.trans (Keeps.drew _ _)).trans hK4)
  clear hS4 hS0 hK4 hD0
  go_wp2
  have hD0 := H4.out.below (Keeps.drew (fun _ => False) _)
  obtain ⟨vl, vp, hd⟩ := hD0.head
  have hS0 : Blk w4.drew w.heap.size (keyR k) 30 := HB4.out.drew
  have hS1 : Blk w4.drew w.heap.size (keyR k) 30 ∧ Blk w4.drew r [.int .i64 lim, .int .i64 used, vl, vp] 56 := ⟨hS0, hd.blk⟩
  refine wp_region_held_drew (S := fun w' => Blk w' w.heap.size (keyR k) 30 ∧ Blk w' r [.int .i64 lim, .int .i64 used, vl, vp] 56) (by kernel_rfl) hS1 (fun _ => ?_)
  refine take_at 0 (some 32) (.pointer (some ⟨r, 0, none⟩)) rfl rfl (by kernel_rfl) (by kernel_rfl) (by kernel_rfl) (fun _ _ _ h => h) (.inl ⟨by rfl, fun w' hS => ?_⟩) hS1 ?_
  · go_simp
  try simp only [Act.put, List.setIfInBounds_toArray, List.set_cons_zero, List.set_cons_succ]
  refine take_at 1 (some 33) (.pointer (some ⟨r, 0, none⟩)) rfl rfl (by kernel_rfl) (by kernel_rfl) (by kernel_rfl) (fun _ _ _ h => h) (.inl ⟨by rfl, fun w' hS => ?_⟩) hS1 ?_
  · go_simp
  try simp only [Act.put, List.setIfInBounds_toArray, List.set_cons_zero, List.set_cons_succ]
  refine take_at 2 (some 34) (.pointer (some ⟨r, 3, none⟩)) rfl rfl (by kernel_rfl) (by kernel_rfl) (by kernel_rfl) (fun _ _ _ h => h) (.inl ⟨by rfl, fun w' hS => ?_⟩) hS1 ?_
  · go_simp
  try simp only [Act.put, List.setIfInBounds_toArray, List.set_cons_zero, List.set_cons_succ]
  refine take_at 3 (some 35) (vp) rfl rfl (by kernel_rfl) (by kernel_rfl) (by kernel_rfl) (fun _ _ _ h => h) (.inl ⟨by rfl, fun w' hS => ?_⟩) hS1 ?_
  · have := hS.2.cell (j := 3) rfl
    go_simp
  try simp only [Act.put, List.setIfInBounds_toArray, List.set_cons_zero, List.set_cons_succ]
  refine take_at 4 (some 36) (.agg (keyR k).toArray) rfl rfl (by kernel_rfl) (by kernel_rfl) (by kernel_rfl) (fun _ _ _ h => h) (.inl ⟨by rfl, fun w' hS => ?_⟩) hS1 ?_
  · exact run_load_part (hS.1.part 0 (keyR k) (by simp [keyR])) 30 _ Try.underlying30 rfl (sizeKey _) _ _ (.tmp 3) rfl rfl
  try simp only [Act.put, List.setIfInBounds_toArray, List.set_cons_zero, List.set_cons_succ]
  refine wpAnyH_all (rs := [5]) (by kernel_rfl) (by simp) ?_
  intro i5 hi5
  obtain rfl : i5 = 5 := by simpa using hi5
  refine call_atG (some 37) rfl rfl rfl 44 #[vp, .agg (keyR k).toArray] ?_ ?_
  · go_simp
  refine (at_any _ k vp P hd.sp.slr (fun p hp => hD0.atP hp) hn2).mono ?_
  rintro e w5 ⟨rfl, hk5⟩
  rw [HFP.out]
  have hS5 : Blk w5 w.heap.size (keyR k) 30 ∧ Blk w5 r [.int .i64 lim, .int .i64 used, vl, vp] 56 := ⟨hS1.1.keeps hk5 id, hS1.2.keeps hk5 id⟩
  refine ⟨_, rfl, hS5, ?_⟩
  try simp only [Act.put, List.setIfInBounds_toArray, List.set_cons_zero, List.set_cons_succ]
  refine take_at 6 (some 7) (.int .i64 i) rfl rfl (by kernel_rfl) (by kernel_rfl) (by kernel_rfl) (fun _ _ _ h => h) (.inl ⟨by rfl, fun w' hS => ?_⟩) hS5 ?_
  · go_simp
    rfl
  try simp only [Act.put, List.setIfInBounds_toArray, List.set_cons_zero, List.set_cons_succ]
  refine wpAnyH_done (by kernel_rfl) ?_ _
  have R5 := Lib.hid (hD0.below hk5)
  have K5 := Lib.hid ((K4.out.trans (Keeps.drew _ _)).trans hk5)
  have hil := (List.getElem?_eq_some_iff.1 HP.out).1
  obtain ⟨_, ga', c', he', h0⟩ := hd.sp.slr.keeps hk5 (fun _ _ _ _ _ _ h => h)
  subst he'
  rcases h0 with h0 | ⟨gb, off, rfl, hgl, hgc⟩
  · omega
  have c1 := hgc i _ (cellsP_get HP.out)
  have c2 := hS5.2.cell (j := 3) rfl
  have a1 : (0 : Int) ≤ i := by omega
  have a2 : (i : Int) < P.length := by omega
  have HHIT := Lib.hid (hit_P R5.out HP.out)
  clear hgc hS5 hS1 hS0 hk5 hd hD0
  go_wp2_with fail
  refine HHIT.out.mono ?_
  rintro e w6 ⟨rfl, hR6, hK6⟩
  have R6 := Lib.hid hR6
  have K6 := Lib.hid ((K5.out.mono (fun _ h => h.elim)).trans hK6)
  clear hR6 hK6
  go_wp2
  go_ret2
  exact ⟨rfl, R6.out, K6.out⟩

set_option maxHeartbeats 2000000 in
theorem Get_none (h : RamAt ro w r lim used L P X) (hn : L.length ≤ 1073741824) (hn2 : P.length ≤ 1073741824) (k : Nat) (hl : firstAt (hasK k) L = none) (hf : firstAt (hasK k) P = none) :
    Calls Try.prog 15 #[.pointer (some ⟨r, 0, none⟩), .agg (keyR k).toArray] w fun e w' => e = .returned (.tuple #[.slice none 0 0, .bool false]) ∧ Keeps (fun _ => False) w w' := by
  have hk1 : Keeps (fun _ => False) w (w.alloc (.cells (keyR k).toArray 30)) := Keeps.alloc _ _ _
  have hr0 : ¬ ro w.heap.size ≠ 0 := fun e => by have := h.lt _ e; omega
  have H := Lib.hid (h.below hk1)
  have HB := Lib.hid (Blk.new w (keyR k) 30)
  have HL := Lib.hid hl
  have HFP := Lib.hid hf
  clear hf hl
  have HK := Lib.hid hk1
  clear h hk1
  go_enter Try.func15, Try.ntmps15
  go_wp2
  have hD0 := H.out.below (Keeps.drew (fun _ => False) _)
  have hS0 : Blk (w.alloc (.cells (keyR k).toArray 30)).drew w.heap.size (keyR k) 30 := HB.out.drew
  refine wp_region_held_drew (S := fun w' => Blk w' w.heap.size (keyR k) 30) (by kernel_rfl) hS0 (fun _ => ?_)
  refine take_at 0 (some 8) (.pointer (some ⟨r, 0, none⟩)) rfl rfl (by kernel_rfl) (by kernel_rfl) (by kernel_rfl) (fun _ _ _ h => h) (.inl ⟨by rfl, fun w' hS => ?_⟩) hS0 ?_
  · go_simp
  try simp only [Act.put, List.setIfInBounds_toArray, List.set_cons_zero, List.set_cons_succ]
  refine take_at 1 (some 9) (.pointer (some ⟨r, 0, none⟩)) rfl rfl (by kernel_rfl) (by kernel_rfl) (by kernel_rfl) (fun _ _ _ h => h) (.inl ⟨by rfl, fun w' hS => ?_⟩) hS0 ?_
  · go_simp
  try simp only [Act.put, List.setIfInBounds_toArray, List.set_cons_zero, List.set_cons_succ]
  refine take_at 2 (some 10) (.pointer (some ⟨r, 2, none⟩)) rfl rfl (by kernel_rfl) (by kernel_rfl) (by kernel_rfl) (fun _ _ _ h => h) (.inl ⟨by rfl, fun w' hS => ?_⟩) hS0 ?_
  · go_simp
  try simp only [Act.put, List.setIfInBounds_toArray, List.set_cons_zero, List.set_cons_succ]
  refine take_at 3 (some 11) (.agg (keyR k).toArray) rfl rfl (by kernel_rfl) (by kernel_rfl) (by kernel_rfl) (fun _ _ _ h => h) (.inl ⟨by rfl, fun w' hS => ?_⟩) hS0 ?_
  · exact run_load_part (hS.part 0 (keyR k) (by simp [keyR])) 30 _ Try.underlying30 rfl (sizeKey _) _ _ (.tmp 3) rfl rfl
  try simp only [Act.put, List.setIfInBounds_toArray, List.set_cons_zero, List.set_cons_succ]
  refine wpAnyH_all (rs := [4]) (by kernel_rfl) (by simp) ?_
  intro i4 hi4
  obtain rfl : i4 = 4 := by simpa using hi4
  refine call_atG (some 12) rfl rfl rfl 43 #[.pointer (some ⟨r, 2, none⟩), .agg (keyR k).toArray] ?_ ?_
  · go_simp
  refine (takeL_none hD0 hn k HL.out).mono ?_
  rintro e w4 ⟨rfl, hK4⟩
  have hS4 : Blk w4 w.heap.size (keyR k) 30 := hS0.keeps hK4 id
  refine ⟨_, rfl, hS4, ?_⟩
  try simp only [Act.put, List.setIfInBounds_toArray, List.set_cons_zero, List.set_cons_succ]
  refine take_at 5 (some 6) (.pointer none) rfl rfl (by kernel_rfl) (by kernel_rfl) (by kernel_rfl) (fun _ _ _ h => h) (.inl ⟨by rfl, fun w' hS => ?_⟩) hS4 ?_
  · go_simp
  try simp only [Act.put, List.setIfInBounds_toArray, List.set_cons_zero, List.set_cons_succ]
  refine wpAnyH_done (by kernel_rfl) ?_ _
  have H4 := Lib.hid (hD0.below hK4)
  have HB4 := Lib.hid hS4
  have K4 := Lib.hid ((HK.out.trans (Keeps.drew _ _)).trans hK4)
  clear hS4 hS0 hK4 hD0
  go_wp2
  have hD0 := H4.out.below (Keeps.drew (fun _ => False) _)
  obtain ⟨vl, vp, hd⟩ := hD0.head
  have hS0 : Blk w4.drew w.heap.size (keyR k) 30 := HB4.out.drew
  have hS1 : Blk w4.drew w.heap.size (keyR k) 30 ∧ Blk w4.drew r [.int .i64 lim, .int .i64 used, vl, vp] 56 := ⟨hS0, hd.blk⟩
  refine wp_region_held_drew (S := fun w' => Blk w' w.heap.size (keyR k) 30 ∧ Blk w' r [.int .i64 lim, .int .i64 used, vl, vp] 56) (by kernel_rfl) hS1 (fun _ => ?_)
  refine take_at 0 (some 32) (.pointer (some ⟨r, 0, none⟩)) rfl rfl (by kernel_rfl) (by kernel_rfl) (by kernel_rfl) (fun _ _ _ h => h) (.inl ⟨by rfl, fun w' hS => ?_⟩) hS1 ?_
  · go_simp
  try simp only [Act.put, List.setIfInBounds_toArray, List.set_cons_zero, List.set_cons_succ]
  refine take_at 1 (some 33) (.pointer (some ⟨r, 0, none⟩)) rfl rfl (by kernel_rfl) (by kernel_rfl) (by kernel_rfl) (fun _ _ _ h => h) (.inl ⟨by rfl, fun w' hS => ?_⟩) hS1 ?_
  · go_simp
  try simp only [Act.put, List.setIfInBounds_toArray, List.set_cons_zero, List.set_cons_succ]
  refine take_at 2 (some 34) (.pointer (some ⟨r, 3, none⟩)) rfl rfl (by kernel_rfl) (by kernel_rfl) (by kernel_rfl) (fun _ _ _ h => h) (.inl ⟨by rfl, fun w' hS => ?_⟩) hS1 ?_
  · go_simp
  try simp only [Act.put, List.setIfInBounds_toArray, List.set_cons_zero, List.set_cons_succ]
  refine take_at 3 (some 35) (vp) rfl rfl (by kernel_rfl) (by kernel_rfl) (by kernel_rfl) (fun _ _ _ h => h) (.inl ⟨by rfl, fun w' hS => ?_⟩) hS1 ?_
  · have := hS.2.cell (j := 3) rfl
    go_simp
  try simp only [Act.put, List.setIfInBounds_toArray, List.set_cons_zero, List.set_cons_succ]
  refine take_at 4 (some 36) (.agg (keyR k).toArray) rfl rfl (by kernel_rfl) (by kernel_rfl) (by kernel_rfl) (fun _ _ _ h => h) (.inl ⟨by rfl, fun w' hS => ?_⟩) hS1 ?_
  · exact run_load_part (hS.1.part 0 (keyR k) (by simp [keyR])) 30 _ Try.underlying30 rfl (sizeKey _) _ _ (.tmp 3) rfl rfl
  try simp only [Act.put, List.setIfInBounds_toArray, List.set_cons_zero, List.set_cons_succ]
  refine wpAnyH_all (rs := [5]) (by kernel_rfl) (by simp) ?_
  intro i5 hi5
  obtain rfl : i5 = 5 := by simpa using hi5
  refine call_atG (some 37) rfl rfl rfl 44 #[vp, .agg (keyR k).toArray] ?_ ?_
  · go_simp
  refine (at_any _ k vp P hd.sp.slr (fun p hp => hD0.atP hp) hn2).mono ?_
  rintro e w5 ⟨rfl, hk5⟩
  rw [HFP.out]
  have hS5 : Blk w5 w.heap.size (keyR k) 30 ∧ Blk w5 r [.int .i64 lim, .int .i64 used, vl, vp] 56 := ⟨hS1.1.keeps hk5 id, hS1.2.keeps hk5 id⟩
  refine ⟨_, rfl, hS5, ?_⟩
  try simp only [Act.put, List.setIfInBounds_toArray, List.set_cons_zero, List.set_cons_succ]
  refine take_at 6 (some 7) (.int .i64 (-1)) rfl rfl (by kernel_rfl) (by kernel_rfl) (by kernel_rfl) (fun _ _ _ h => h) (.inl ⟨by rfl, fun w' hS => ?_⟩) hS5 ?_
  · go_simp
    rfl
  try simp only [Act.put, List.setIfInBounds_toArray, List.set_cons_zero, List.set_cons_succ]
  refine wpAnyH_done (by kernel_rfl) ?_ _
  have K5 := Lib.hid ((K4.out.trans (Keeps.drew _ _)).trans hk5)
  clear hS5 hS1 hS0 hk5 hd hD0
  go_wp2
  go_ret2
  exact ⟨rfl, K5.out⟩
end Go.Proofs.Ytpiijfknpliahaa
