/- The walk of RamLast: it returns true. Conditions: the slice reads as bytes. -/
import Derived.Test.YtpiijfknpliahaaDrop
namespace Go.Proofs.Ytpiijfknpliahaa
open Go.RowKit
set_option maxRecDepth 100000
attribute [local go_sem] Oper.semAt_some

set_option maxHeartbeats 4000000 in
theorem RamLast_any (w : World) (a : Option Addr) (c : Nat) (T : List Nat) (hT : ∀ x ∈ T, x < 256) (hv : SlR w (.slice a T.length c) 1 T.length (bytesV T)) : Calls Try.prog 8 #[.slice a T.length c] w fun e w' => e = .returned (.bool true) ∧ Keeps (fun _ => False) w w' := by
  have HKN := Lib.hid (known_any w)
  by_cases h1 : 40 < T.length
  · have a1 : (40 : Int) < T.length := by omega
    clear hv hT
    go_enter Try.func8, Try.ntmps8
    go_wp2_with fail
    refine HKN.out.mono ?_
    rintro e w1 ⟨rfl, hk1⟩
    go_wp2
    go_ret
    exact ⟨rfl, hk1⟩
  have a1 : ¬ (40 : Int) < T.length := by omega
  have HV := Lib.hid hv
  have HT := Lib.hid hT
  clear hv hT
  go_enter Try.func8, Try.ntmps8
  go_wp2_with fail
  refine HKN.out.mono ?_
  rintro e w1 ⟨rfl, hk1⟩
  have K1 := Lib.hid hk1
  clear hk1
  go_wp2_with fail
  refine (new_st w w1 K1.out 10000 10000 (by decide)).mono ?_
  rintro e w3 ⟨r, ro3, rfl, h3⟩
  have H3 := Lib.hid h3
  clear h3
  go_wp2
  go_loopw [4] (fun s4 wr => ∃ (i : Nat) (ro : Nat → Nat) (used : Nat) (L : Ents), s4 = .int .i64 i ∧ i ≤ T.length ∧ Hid (One used L) ∧ Hid (St w ro wr r 10000 used L [])) (fun s4 _ => T.length - (intOf s4).toNat)
  case atStart => exact ⟨0, ro3, 0, [], rfl, Nat.zero_le _, Lib.hid (.inl ⟨rfl, rfl⟩), H3⟩
  case round =>
    obtain ⟨i, ro, used, L, rfl, hi, hO, hS⟩ := hrel
    by_cases hlt : i < T.length
    · obtain ⟨x, hx⟩ : ∃ x, T[i]? = some x := ⟨T[i], by simp [hlt]⟩
      obtain ⟨_, a', c', he', h0⟩ := HV.out
      cases he'
      rcases h0 with h0 | ⟨b, off, rfl, hbl, hcc⟩
      · omega
      have hx256 := HT.out x (List.mem_of_getElem? hx)
      have hcell : ∀ W, Keeps (fun _ => False) w W → W.cell? ⟨b, off + i, none⟩ = some (.int .u8 x) := fun W k => (k.cell (p := ⟨b, off + i, none⟩) hbl id).trans (hcc i _ (by simp [bytesV, hx]))
      have HCELL := Lib.hid hcell
      have a2 : (i : Int) < T.length := by omega
      have a3 : (0 : Int) ≤ i := by omega
      have c0 := hcell wr hS.out.kept
      have e9 : IntKind.i64.wrap ((i : Int) + 1) = (i : Int) + 1 := by rw [IntKind.wrap_i64]; omega
      have e10 : IntKind.u8.wrap (i : Int) = (i : Int) := by rw [IntKind.wrap_u8]; omega
      have e11 : (i : Int) % 256 = (i : Int) := by omega
      clear hcell hcc hx
      by_cases h4 : x % 4 = 0
      · have e1 : ((x : Int) % 4 == 0) = true := by
          have : (x : Int) % 4 = 0 := by omega
          rw [this]; rfl
        have e2 : (x : Int).tmod 4 = 0 := by rw [Int.tmod_eq_emod_of_nonneg (by omega)]; omega
        have e3 : (x : Int) % 4 = 0 := by omega
        go_wp2_with fail
        refine (key_any wr 1 (by omega)).mono ?_
        rintro e w4 ⟨rfl, hk4⟩
        have H4 := Lib.hid (hS.out.below hk4)
        clear hk4 c0
        go_wp2_with fail
        refine (last_drop H4.out hO.out).mono ?_
        rintro e w5 ⟨cd, rfl, h5⟩
        have H5 := Lib.hid h5
        clear h5
        go_wp2_with fail
        refine (key_any w5 1 (by omega)).mono ?_
        rintro e w6 ⟨rfl, hk6⟩
        have H6 := Lib.hid (H5.out.below hk6)
        clear hk6
        go_wp2_with fail
        refine (last_none H6.out).mono ?_
        rintro e w7 ⟨rfl, h7⟩
        have H7 := Lib.hid h7
        clear h7
        go_wp2_with fail
        refine (key_any w7 1 (by omega)).mono ?_
        rintro e w8 ⟨rfl, hk8⟩
        have H8 := Lib.hid (H7.out.below hk8)
        clear hk8
        go_wp2_with fail
        refine (Hits_any H8.out.ram (by simp) (by simp) 1 0 rfl).mono ?_
        rintro e w9 ⟨rfl, hk9⟩
        have H9 := Lib.hid (H8.out.below hk9)
        clear hk9
        go_wp2
        go_roundw
        case rel => exact ⟨i + 1, ro, 0, [], by go_num, by omega, Lib.hid (.inl ⟨rfl, rfl⟩), H9⟩
        case measure => simp [intOf]; omega
      · have e1 : ((x : Int) % 4 == 0) = false := beq_eq_false_iff_ne.2 (by omega)
        have e2 : (x : Int).tmod 4 = (x : Int) % 4 := Int.tmod_eq_emod_of_nonneg (by omega)
        have e3 : ((x : Int).tmod 4 == 0) = false := by rw [e2]; exact e1
        go_wp2
        have hS0 : Keeps (fun _ => False) w wr.drew := hS.out.kept.trans (Keeps.drew _ _)
        refine wp_region_held_drew (S := fun w' => Keeps (fun _ => False) w w') (by kernel_rfl) hS0 (fun _ => ?_)
        refine take_at 0 (some 43) (.pointer (some ⟨r, 0, none⟩)) rfl rfl (by kernel_rfl) (by kernel_rfl) (by kernel_rfl) (fun _ _ _ h => h) (.inl ⟨by rfl, fun w' hS => ?_⟩) hS0 ?_
        · go_simp
        try simp only [Act.put, List.setIfInBounds_toArray, List.set_cons_zero, List.set_cons_succ]
        refine take_at 2 (some 45) (.slice (some ⟨b, off, none⟩) T.length c) rfl rfl (by kernel_rfl) (by kernel_rfl) (by kernel_rfl) (fun _ _ _ h => h) (.inl ⟨by rfl, fun w' hS => ?_⟩) hS0 ?_
        · go_simp
        try simp only [Act.put, List.setIfInBounds_toArray, List.set_cons_zero, List.set_cons_succ]
        refine take_at 3 (some 46) (.int .i64 i) rfl rfl (by kernel_rfl) (by kernel_rfl) (by kernel_rfl) (fun _ _ _ h => h) (.inl ⟨by rfl, fun w' hS => ?_⟩) hS0 ?_
        · go_simp
        try simp only [Act.put, List.setIfInBounds_toArray, List.set_cons_zero, List.set_cons_succ]
        refine take_at 4 (some 47) (.pointer (some ⟨b, off + i, none⟩)) rfl rfl (by kernel_rfl) (by kernel_rfl) (by kernel_rfl) (fun _ _ _ h => h) (.inl ⟨by rfl, fun w' hS => ?_⟩) hS0 ?_
        · go_simp
        try simp only [Act.put, List.setIfInBounds_toArray, List.set_cons_zero, List.set_cons_succ]
        refine take_at 5 (some 48) (.int .u8 x) rfl rfl (by kernel_rfl) (by kernel_rfl) (by kernel_rfl) (fun _ _ _ h => h) (.inl ⟨by rfl, fun w' hS => ?_⟩) hS0 ?_
        · have := HCELL.out w' hS
          go_simp
        try simp only [Act.put, List.setIfInBounds_toArray, List.set_cons_zero, List.set_cons_succ]
        refine take_at 6 (some 49) (.int .i64 i) rfl rfl (by kernel_rfl) (by kernel_rfl) (by kernel_rfl) (fun _ _ _ h => h) (.inl ⟨by rfl, fun w' hS => ?_⟩) hS0 ?_
        · go_simp
        try simp only [Act.put, List.setIfInBounds_toArray, List.set_cons_zero, List.set_cons_succ]
        refine take_at 7 (some 50) (.int .u8 i) rfl rfl (by kernel_rfl) (by kernel_rfl) (by kernel_rfl) (fun _ _ _ h => h) (.inl ⟨by rfl, fun w' hS => ?_⟩) hS0 ?_
        · go_simp
        try simp only [Act.put, List.setIfInBounds_toArray, List.set_cons_zero, List.set_cons_succ]
        refine wpAnyH_all (rs := [1, 8]) (by kernel_rfl) (by simp) ?_
        intro ix hix
        have hor : ix = 1 ∨ ix = 8 := by simpa using hix
        clear hix
        rcases hor with rfl | rfl
        · refine call_atG (some 44) rfl rfl rfl 13 #[.int .i64 1] ?_ ?_
          · go_simp
          refine (key_any _ 1 (by omega)).mono ?_
          rintro e w7 ⟨rfl, hk7⟩
          refine ⟨_, rfl, hS0.trans hk7, ?_⟩
          try simp only [Act.put, List.setIfInBounds_toArray, List.set_cons_zero, List.set_cons_succ]
          refine wpAnyH_all (rs := [8]) (by kernel_rfl) (by simp) ?_
          intro i8 hi8
          obtain rfl : i8 = 8 := by simpa using hi8
          refine run_at (w' := w7.alloc (.cells #[.int .u8 x, .int .u8 i] 5)) (some 51) (.slice (some ⟨w7.heap.size, 0, none⟩) 2 2) rfl rfl rfl (by go_simp) ?_
          refine ⟨(hS0.trans hk7).trans (Keeps.alloc _ _ _), ?_⟩
          try simp only [Act.put, List.setIfInBounds_toArray, List.set_cons_zero, List.set_cons_succ]
          have HX := Lib.hid ((hS.out.below ((Keeps.drew _ _).trans hk7)).below (Keeps.alloc _ _ (.cells #[.int .u8 x, .int .u8 i] 5)))
          have HZX := Lib.hid (show SlR (w7.alloc (.cells #[.int .u8 x, .int .u8 i] 5)) (.slice (some ⟨w7.heap.size, 0, none⟩) 2 2) 1 2 (bytesV [x, i]) from slr_bytes (Blk.new w7 (bytesV [x, i]) 5))
          clear hk7
          refine wpAnyH_all (rs := [9]) (by kernel_rfl) (by simp) ?_
          intro i9 hi9
          obtain rfl : i9 = 9 := by simpa using hi9
          have H3' := HX.out.kept
          refine call_atG (some 52) rfl rfl rfl 12 #[.pointer (some ⟨r, 0, none⟩), .agg (keyR 1).toArray, .slice (some ⟨w7.heap.size, 0, none⟩) 2 2] ?_ ?_
          · go_simp
          refine (last_put HX.out hO.out _ [x, i] rfl HZX.out).mono ?_
          rintro e w9 ⟨rfl, ro9, e9, x9, h9, hk9, hs9, hb9⟩
          have hK9 := h9.kept
          have H9 := Lib.hid h9
          refine ⟨_, rfl, hK9, ?_⟩
          try simp only [Act.put, List.setIfInBounds_toArray, List.set_cons_zero, List.set_cons_succ]
          refine take_at 10 (some 53) (.bool false) rfl rfl (by kernel_rfl) (by kernel_rfl) (by kernel_rfl) (fun _ _ _ h => h) (.inl ⟨by rfl, fun w' hS => ?_⟩) hK9 ?_
          · go_simp
          try simp only [Act.put, List.setIfInBounds_toArray, List.set_cons_zero, List.set_cons_succ]
          refine wpAnyH_done (by kernel_rfl) ?_ _
          have HB9 := Lib.hid hb9
          clear h9 HX HZX H3' hS0 hK9 hb9
          go_wp2_with fail
          refine (key_any w9 1 (by omega)).mono ?_
          rintro e w10 ⟨rfl, hk10⟩
          have H10 := Lib.hid (H9.out.below hk10)
          clear hk10
          go_wp2_with fail
          refine (last_get H10.out hk9 hs9).mono ?_
          rw [HB9.out]
          rintro e w11 ⟨ga, gc, ro11, x11, rfl, h11, hk11, hs11, hg11⟩
          have H11 := Lib.hid h11
          have hbz : Blk (w11.alloc (.cells #[.int .u8 x, .int .u8 i] 5)) w11.heap.size (bytesV [x, i]) 5 := Blk.new w11 (bytesV [x, i]) 5
          have HZ := Lib.hid (slr_bytes hbz)
          have HG := Lib.hid (hg11.below (Below.alloc1 _ (.cells #[.int .u8 x, .int .u8 i] 5)))
          have H12 := Lib.hid (h11.below (Keeps.alloc _ _ (.cells #[.int .u8 x, .int .u8 i] 5)))
          have c11 := HCELL.out w11 h11.kept
          clear h11 hg11 hbz c0
          go_wp2_with fail
          refine (Bytes_same (by simp) HG.out HZ.out).mono ?_
          rintro e w12 ⟨rfl, rfl⟩
          clear c11
          go_wp2_with fail
          refine (Used_any H12.out.ram).mono ?_
          rintro e w13 ⟨rfl, hk13⟩
          have H13 := Lib.hid (H12.out.below hk13)
          clear hk13
          go_wp2
          go_roundw
          case rel => exact ⟨i + 1, ro11, 66, [(e9, x11)], by go_num, by omega, Lib.hid (.inr ⟨e9, x11, rfl, rfl, hk11, hs11⟩), H13⟩
          case measure => simp [intOf]; omega
        · refine run_at (w' := wr.drew.alloc (.cells #[.int .u8 x, .int .u8 i] 5)) (some 51) (.slice (some ⟨wr.drew.heap.size, 0, none⟩) 2 2) rfl rfl rfl (by go_simp) ?_
          refine ⟨hS0.trans (Keeps.alloc _ _ _), ?_⟩
          try simp only [Act.put, List.setIfInBounds_toArray, List.set_cons_zero, List.set_cons_succ]
          refine wpAnyH_all (rs := [1]) (by kernel_rfl) (by simp) ?_
          intro i1 hi1
          obtain rfl : i1 = 1 := by simpa using hi1
          refine call_atG (some 44) rfl rfl rfl 13 #[.int .i64 1] ?_ ?_
          · go_simp
          refine (key_any _ 1 (by omega)).mono ?_
          rintro e w7 ⟨rfl, hk7⟩
          refine ⟨_, rfl, (hS0.trans (Keeps.alloc _ _ _)).trans hk7, ?_⟩
          try simp only [Act.put, List.setIfInBounds_toArray, List.set_cons_zero, List.set_cons_succ]
          have HX := Lib.hid ((hS.out.below ((Keeps.drew _ _).trans (Keeps.alloc _ _ (.cells #[.int .u8 x, .int .u8 i] 5)))).below hk7)
          have HZX := Lib.hid (show SlR w7 (.slice (some ⟨wr.drew.heap.size, 0, none⟩) 2 2) 1 2 (bytesV [x, i]) from slr_bytes ((Blk.new wr.drew (bytesV [x, i]) 5).keeps hk7 id))
          clear hk7
          refine wpAnyH_all (rs := [9]) (by kernel_rfl) (by simp) ?_
          intro i9 hi9
          obtain rfl : i9 = 9 := by simpa using hi9
          have H3' := HX.out.kept
          refine call_atG (some 52) rfl rfl rfl 12 #[.pointer (some ⟨r, 0, none⟩), .agg (keyR 1).toArray, .slice (some ⟨wr.drew.heap.size, 0, none⟩) 2 2] ?_ ?_
          · go_simp
          refine (last_put HX.out hO.out _ [x, i] rfl HZX.out).mono ?_
          rintro e w9 ⟨rfl, ro9, e9, x9, h9, hk9, hs9, hb9⟩
          have hK9 := h9.kept
          have H9 := Lib.hid h9
          refine ⟨_, rfl, hK9, ?_⟩
          try simp only [Act.put, List.setIfInBounds_toArray, List.set_cons_zero, List.set_cons_succ]
          refine take_at 10 (some 53) (.bool false) rfl rfl (by kernel_rfl) (by kernel_rfl) (by kernel_rfl) (fun _ _ _ h => h) (.inl ⟨by rfl, fun w' hS => ?_⟩) hK9 ?_
          · go_simp
          try simp only [Act.put, List.setIfInBounds_toArray, List.set_cons_zero, List.set_cons_succ]
          refine wpAnyH_done (by kernel_rfl) ?_ _
          have HB9 := Lib.hid hb9
          clear h9 HX HZX H3' hS0 hK9 hb9
          go_wp2_with fail
          refine (key_any w9 1 (by omega)).mono ?_
          rintro e w10 ⟨rfl, hk10⟩
          have H10 := Lib.hid (H9.out.below hk10)
          clear hk10
          go_wp2_with fail
          refine (last_get H10.out hk9 hs9).mono ?_
          rw [HB9.out]
          rintro e w11 ⟨ga, gc, ro11, x11, rfl, h11, hk11, hs11, hg11⟩
          have H11 := Lib.hid h11
          have hbz : Blk (w11.alloc (.cells #[.int .u8 x, .int .u8 i] 5)) w11.heap.size (bytesV [x, i]) 5 := Blk.new w11 (bytesV [x, i]) 5
          have HZ := Lib.hid (slr_bytes hbz)
          have HG := Lib.hid (hg11.below (Below.alloc1 _ (.cells #[.int .u8 x, .int .u8 i] 5)))
          have H12 := Lib.hid (h11.below (Keeps.alloc _ _ (.cells #[.int .u8 x, .int .u8 i] 5)))
          have c11 := HCELL.out w11 h11.kept
          clear h11 hg11 hbz c0
          go_wp2_with fail
          refine (Bytes_same (by simp) HG.out HZ.out).mono ?_
          rintro e w12 ⟨rfl, rfl⟩
          clear c11
          go_wp2_with fail
          refine (Used_any H12.out.ram).mono ?_
          rintro e w13 ⟨rfl, hk13⟩
          have H13 := Lib.hid (H12.out.below hk13)
          clear hk13
          go_wp2
          go_roundw
          case rel => exact ⟨i + 1, ro11, 66, [(e9, x11)], by go_num, by omega, Lib.hid (.inr ⟨e9, x11, rfl, rfl, hk11, hs11⟩), H13⟩
          case measure => simp [intOf]; omega
    · obtain rfl : i = T.length := by omega
      have a2 : ¬ ((T.length : Nat) : Int) < T.length := by omega
      go_wp2
      go_ret
      exact ⟨rfl, hS.out.kept⟩
end Go.Proofs.Ytpiijfknpliahaa
