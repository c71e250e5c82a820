/- Contracts of New, Used, Keys, History, Hits. Conditions: the receiver is a memory. -/
import Derived.Test.YtpiijfknpliahaaRamK
namespace Go.Proofs.Ytpiijfknpliahaa
open Go.RowKit
set_option maxRecDepth 100000
attribute [local go_sem] Oper.semAt_some

variable {ro : Nat → Nat} {w w' : World} {r lim used : Nat} {L P X : Ents}
theorem New_any (w : World) (lim : Int) (n : Nat) (hn : min (max lim 0) 1073741824 = (n : Int)) :
    Calls Try.prog 10 #[.int .i64 lim] w fun e w' => ∃ r ro, e = .returned (.pointer (some ⟨r, 0, none⟩)) ∧ RamAt ro w' r n 0 [] [] [] ∧ w.heap.size ≤ r ∧ (∀ b, ro b ≠ 0 → w.heap.size ≤ b) ∧ Keeps (fun _ => False) w w' := by
  have hmax : ∀ W : World, (Builtin.max_ #[3, 3] 3 #[.int .i64 lim, .int .i64 0]).run Try.prog W = .ok (.int .i64 (max lim 0)) W := fun W => run_max_int _ _ _ _ _ _ _
  have hmin : ∀ W : World, (Builtin.min_ #[3, 3] 3 #[.int .i64 (max lim 0), .int .i64 1073741824]).run Try.prog W = .ok (.int .i64 n) W := fun W => by rw [← hn]; exact run_min_int _ _ _ _ _ _ _
  have hb : Blk (w.alloc (.cells #[.int .i64 n, .int .i64 0, .slice none 0 0, .slice none 0 0] 56)) w.heap.size [.int .i64 n, .int .i64 ((0 : Nat) : Int), .slice none 0 0, .slice none 0 0] 56 := Blk.new w [_, _, _, _] 56
  have HB := Lib.hid hb
  clear hb hn
  go_enter Try.func10, Try.ntmps10
  go_wp2
  go_ret
  refine ⟨w.heap.size, fun b => if b = w.heap.size then 1 else 0, rfl, ⟨⟨_, _, HB.out, SlO.nil _ _ _, SlO.nil _ _ _, fun g hg => by simp [blkOf] at hg, fun g hg => by simp [blkOf] at hg⟩, if_pos rfl, fun p hp => by simp at hp, by simp, fun b hb => ?_⟩, Nat.le_refl _, fun b hb => ?_, Keeps.alloc _ _ _⟩
  · by_cases h : b = w.heap.size
    · subst h; simp
    · exact (hb (if_neg h)).elim
  · by_cases h : b = w.heap.size
    · omega
    · exact (hb (if_neg h)).elim
theorem Used_any (h : RamAt ro w r lim used L P X) : Calls Try.prog 19 #[.pointer (some ⟨r, 0, none⟩)] w fun e w' => e = .returned (.int .i64 used) ∧ Keeps (fun _ => False) w w' := by
  obtain ⟨vl, vp, hd⟩ := h.head
  have c1 := hd.blk.cell (j := 1) rfl
  clear hd h
  go_enter Try.func19, Try.ntmps19
  go_wp2
  go_ret
  exact ⟨rfl, Keeps.refl _ _⟩
theorem Keys_any (h : RamAt ro w r lim used L P X) (hn : L.length ≤ 1073741824) : Calls Try.prog 24 #[.pointer (some ⟨r, 0, none⟩)] w fun e w' => ∃ a c, e = .returned (.slice a L.length c) ∧ SlR w' (.slice a L.length c) 32 L.length (cellsK (L.map fun p => p.2.k)) ∧ Keeps (fun _ => False) w w' := by
  obtain ⟨vl, vp, hd⟩ := h.head
  have c1 := hd.blk.cell (j := 2) rfl
  have HC := Lib.hid (keys_any w vl L hd.sl.slr (fun p hp => h.atL hp) hn)
  obtain ⟨la, lc, rfl, _⟩ := hd.sl.form
  clear hd h
  go_enter Try.func24, Try.ntmps24
  go_wp2_with fail
  refine HC.out.mono ?_
  rintro e w1 ⟨v, rfl, h1, h2⟩
  obtain ⟨a, c, rfl⟩ := h1.form
  have H1 := Lib.hid h1
  have H2 := Lib.hid h2
  clear h1 h2
  go_wp2
  go_ret
  exact ⟨a, c, rfl, H1.out, H2.out⟩
theorem History_any (h : RamAt ro w r lim used L P X) (hn : P.length ≤ 1073741824) : Calls Try.prog 22 #[.pointer (some ⟨r, 0, none⟩)] w fun e w' => ∃ a c, e = .returned (.slice a P.length c) ∧ SlR w' (.slice a P.length c) 32 P.length (cellsK (P.map fun p => p.2.k)) ∧ Keeps (fun _ => False) w w' := by
  obtain ⟨vl, vp, hd⟩ := h.head
  have c1 := hd.blk.cell (j := 3) rfl
  have HC := Lib.hid (keys_any w vp P hd.sp.slr (fun p hp => h.atP hp) hn)
  obtain ⟨la, lc, rfl, _⟩ := hd.sp.form
  clear hd h
  go_enter Try.func22, Try.ntmps22
  go_wp2_with fail
  refine HC.out.mono ?_
  rintro e w1 ⟨v, rfl, h1, h2⟩
  obtain ⟨a, c, rfl⟩ := h1.form
  have H1 := Lib.hid h1
  have H2 := Lib.hid h2
  clear h1 h2
  go_wp2
  go_ret
  exact ⟨a, c, rfl, H1.out, H2.out⟩

def hitsOf (k : Nat) (L P : Ents) : Nat := match firstAt (hasK k) L with
  | some i => (L.getD i default).2.hits
  | none => match firstAt (hasK k) P with
    | some i => (P.getD i default).2.hits
    | none => 0
set_option maxHeartbeats 2000000 in
theorem Hits_any (h : RamAt ro w r lim used L P X) (hn : L.length ≤ 1073741824) (hn2 : P.length ≤ 1073741824) (k : Nat) (hh : Nat) (hhk : hitsOf k L P = hh) :
    Calls Try.prog 17 #[.pointer (some ⟨r, 0, none⟩), .agg (keyR k).toArray] w fun e w' => e = .returned (.int .i64 hh) ∧ Keeps (fun _ => False) w w' := by
  have hk1 : Keeps (fun _ => False) w (w.alloc (.cells (keyR k).toArray 30)) := Keeps.alloc _ _ _
  obtain ⟨vl, vp, hd⟩ := (h.below hk1).head
  have hh1 := (h.below hk1)
  obtain ⟨la, lc, rfl, _⟩ := hd.sl.form
  obtain ⟨pa, pc, rfl, _⟩ := hd.sp.form
  have c2 : (w.alloc (.cells (keyR k).toArray 30)).drew.cell? ⟨r, 2, none⟩ = some (.slice la L.length lc) := hd.blk.drew.cell (j := 2) rfl
  have c3 : (w.alloc (.cells (keyR k).toArray 30)).drew.cell? ⟨r, 3, none⟩ = some (.slice pa P.length pc) := hd.blk.drew.cell (j := 3) rfl
  have d2 : ∀ o, ((w.alloc (.cells (keyR k).toArray 30)).alloc o).drew.cell? ⟨r, 2, none⟩ = some (.slice la L.length lc) := fun o => (hd.blk.alloc o).drew.cell (j := 2) rfl
  have d3 : ∀ o, ((w.alloc (.cells (keyR k).toArray 30)).alloc o).drew.cell? ⟨r, 3, none⟩ = some (.slice pa P.length pc) := fun o => (hd.blk.alloc o).drew.cell (j := 3) rfl
  have hB2 : Blk ((w.alloc (.cells (keyR k).toArray 30)).alloc (.cells #[.slice la L.length lc, .slice pa P.length pc] 54)).drew (w.heap.size + 1) [.slice la L.length lc, .slice pa P.length pc] 54 := by
    have := (Blk.new (w.alloc (.cells (keyR k).toArray 30)) [.slice la L.length lc, .slice pa P.length pc] 54).drew
    rw [World.size_alloc] at this; exact this
  have hk2 : Keeps (fun _ => False) (w.alloc (.cells (keyR k).toArray 30)) ((w.alloc (.cells (keyR k).toArray 30)).alloc (.cells #[.slice la L.length lc, .slice pa P.length pc] 54)).drew := (Keeps.alloc _ _ _).trans (Keeps.drew _ _)
  have HB := Lib.hid (((Blk.new w (keyR k) 30)).keeps hk2 id)
  have H1 := Lib.hid (hh1.below hk2)
  have HDL := Lib.hid (hd.sl.keeps hk2 (fun _ _ h => h))
  have HDP := Lib.hid (hd.sp.keeps hk2 (fun _ _ h => h))
  have HB2 := Lib.hid hB2
  have HK := Lib.hid (hk1.trans hk2)
  have HH := Lib.hid hhk
  clear h hk1 hd hh1 hhk hB2 hk2
  go_enter Try.func17, Try.ntmps17
  go_wp2
  go_region_held3 (fun w' => w'.cell? ⟨r, 2, none⟩ = some (.slice la L.length lc) ∧ w'.cell? ⟨r, 3, none⟩ = some (.slice pa P.length pc)) (first | go_keep | exact ⟨d2 _, d3 _⟩) (fail)
  clear d2 d3 c2 c3
  generalize ((w.alloc (.cells (keyR k).toArray 30)).alloc (.cells #[.slice la L.length lc, .slice pa P.length pc] 54)).drew = w2 at *
  go_wp2
  go_loopw [18] (fun s18 wr => ∃ (m : Nat), s18 = .int .i64 m ∧ (m = 0 ∨ (m = 1 ∧ Hid (firstAt (hasK k) L = none)) ∨ (m = 2 ∧ Hid (firstAt (hasK k) L = none) ∧ Hid (firstAt (hasK k) P = none))) ∧ Hid (Keeps (fun _ => False) w2 wr)) (fun s18 _ => 2 - (intOf s18).toNat)
  case atStart => exact ⟨0, rfl, .inl rfl, Lib.hid (Keeps.refl _ _)⟩
  case round =>
    obtain ⟨m, rfl, hm, hK⟩ := hrel
    rcases hm with rfl | ⟨rfl, hno⟩ | ⟨rfl, hno, hno2⟩
    · have cm := (HB2.out.keeps hK.out id).cell (j := 0) rfl
      have hcall := at_any wr k (.slice la L.length lc) L (HDL.out.slr.keeps hK.out (fun _ _ _ _ _ _ h => h)) (fun p hp => ((H1.out.below hK.out).atL hp)) hn
      have hKB := HB.out.keeps hK.out id
      have HKB := Lib.hid (hKB.part 0 (keyR k) (by simp [keyR]))
      cases hf : firstAt (hasK k) L with
      | some i =>
        obtain ⟨p, hp, _⟩ := firstAt_get hf
        have hil := (List.getElem?_eq_some_iff.1 hp).1
        have hpm : p ∈ L := List.mem_of_getElem? hp
        have hfin : hh = p.2.hits := by
          rw [← HH.out]; unfold hitsOf
          rw [hf]; simp [List.getD_eq_getElem?_getD, hp]
        rw [hf] at hcall
        change Calls _ _ _ _ fun r w' => r = .returned (.int .i64 (i : Int)) ∧ _ at hcall
        have HCL := Lib.hid hcall
        have HFN := Lib.hid hfin
        have HP := Lib.hid hp
        have a1 : (0 : Int) ≤ i := by omega
        have a2 : (i : Int) < L.length := by omega
        clear hcall hf hfin hp hKB
        go_wp2_with (first | (refine wpList_load_part rfl 30 (.tmp 3) rfl w.heap.size 0 rfl (keyR k) (by exact HKB.out) _ Try.underlying30 rfl (sizeKey _) ?_))
        refine HCL.out.mono ?_
        rintro e w4 ⟨rfl, hk4⟩
        obtain ⟨_, ga', c', he', h0⟩ := HDL.out.slr.keeps (hK.out.trans hk4) (fun _ _ _ _ _ _ h => h)
        cases he'
        rcases h0 with h0 | ⟨gb, off, rfl, hgl, hgc⟩
        · omega
        have c1 := hgc i _ (cellsP_get HP.out)
        have hR4 := (H1.out.below (hK.out.trans hk4))
        obtain ⟨vb, hblk, _⟩ := (hR4.atL hpm).ex
        have ch := hblk.cell (ent_hits p.2 vb)
        have HCH := Lib.hid ch
        have HK4 := Lib.hid ((HK.out.trans hK.out).trans hk4)
        clear hgc hR4 hblk hk4
        go_wp2_with fail
        refine (load_cell HCH.out).mono ?_
        rintro e w5 ⟨rfl, rfl⟩
        go_wp2
        go_ret
        exact ⟨by rw [HFN.out]; rfl, HK4.out⟩
      | none =>
        rw [hf] at hcall
        change Calls _ _ _ _ fun r w' => r = .returned (.int .i64 (-1)) ∧ _ at hcall
        have HCL := Lib.hid hcall
        have HF := Lib.hid hf
        clear hcall hf hKB
        go_wp2_with (first | (refine wpList_load_part rfl 30 (.tmp 3) rfl w.heap.size 0 rfl (keyR k) (by exact HKB.out) _ Try.underlying30 rfl (sizeKey _) ?_))
        refine HCL.out.mono ?_
        rintro e w4 ⟨rfl, hk4⟩
        have HK4 := Lib.hid (hK.out.trans hk4)
        clear hk4
        go_wp2
        go_roundw
        case rel => exact ⟨1, by first | rfl | go_num, .inr (.inl ⟨rfl, by first | exact HF | exact Lib.hid trivial⟩), HK4⟩
        case measure => simp [intOf]
    · have cm := (HB2.out.keeps hK.out id).cell (j := 1) rfl
      have hcall := at_any wr k (.slice pa P.length pc) P (HDP.out.slr.keeps hK.out (fun _ _ _ _ _ _ h => h)) (fun p hp => ((H1.out.below hK.out).atP hp)) hn2
      have hKB := HB.out.keeps hK.out id
      have HKB := Lib.hid (hKB.part 0 (keyR k) (by simp [keyR]))
      cases hf : firstAt (hasK k) P with
      | some i =>
        obtain ⟨p, hp, _⟩ := firstAt_get hf
        have hil := (List.getElem?_eq_some_iff.1 hp).1
        have hpm : p ∈ P := List.mem_of_getElem? hp
        have hfin : hh = p.2.hits := by
          rw [← HH.out]; unfold hitsOf
          rw [hno.out]; simp only []
          rw [hf]; simp [List.getD_eq_getElem?_getD, hp]
        rw [hf] at hcall
        change Calls _ _ _ _ fun r w' => r = .returned (.int .i64 (i : Int)) ∧ _ at hcall
        have HCL := Lib.hid hcall
        have HFN := Lib.hid hfin
        have HP := Lib.hid hp
        have a1 : (0 : Int) ≤ i := by omega
        have a2 : (i : Int) < P.length := by omega
        clear hcall hf hfin hp hKB
        go_wp2_with (first | (refine wpList_load_part rfl 30 (.tmp 3) rfl w.heap.size 0 rfl (keyR k) (by exact HKB.out) _ Try.underlying30 rfl (sizeKey _) ?_))
        refine HCL.out.mono ?_
        rintro e w4 ⟨rfl, hk4⟩
        obtain ⟨_, ga', c', he', h0⟩ := HDP.out.slr.keeps (hK.out.trans hk4) (fun _ _ _ _ _ _ h => h)
        cases he'
        rcases h0 with h0 | ⟨gb, off, rfl, hgl, hgc⟩
        · omega
        have c1 := hgc i _ (cellsP_get HP.out)
        have hR4 := (H1.out.below (hK.out.trans hk4))
        obtain ⟨vb, hblk, _⟩ := (hR4.atP hpm).ex
        have ch := hblk.cell (ent_hits p.2 vb)
        have HCH := Lib.hid ch
        have HK4 := Lib.hid ((HK.out.trans hK.out).trans hk4)
        clear hgc hR4 hblk hk4
        go_wp2_with fail
        refine (load_cell HCH.out).mono ?_
        rintro e w5 ⟨rfl, rfl⟩
        go_wp2
        go_ret
        exact ⟨by rw [HFN.out]; rfl, HK4.out⟩
      | none =>
        rw [hf] at hcall
        change Calls _ _ _ _ fun r w' => r = .returned (.int .i64 (-1)) ∧ _ at hcall
        have HCL := Lib.hid hcall
        have HF := Lib.hid hf
        clear hcall hf hKB
        go_wp2_with (first | (refine wpList_load_part rfl 30 (.tmp 3) rfl w.heap.size 0 rfl (keyR k) (by exact HKB.out) _ Try.underlying30 rfl (sizeKey _) ?_))
        refine HCL.out.mono ?_
        rintro e w4 ⟨rfl, hk4⟩
        have HK4 := Lib.hid (hK.out.trans hk4)
        clear hk4
        go_wp2
        go_roundw
        case rel => exact ⟨2, by first | rfl | go_num, .inr (.inr ⟨rfl, by first | exact hno | exact Lib.hid trivial, by first | exact HF | exact Lib.hid trivial⟩), HK4⟩
        case measure => simp [intOf]
    · have hfin : hh = 0 := by
        rw [← HH.out]; unfold hitsOf
        rw [hno.out, hno2.out]
      subst hfin
      go_wp2
      go_ret
      exact ⟨rfl, HK.out.trans hK.out⟩
end Go.Proofs.Ytpiijfknpliahaa
