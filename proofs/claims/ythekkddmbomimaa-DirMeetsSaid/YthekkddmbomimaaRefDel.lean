/- The contract of the document's Delete: the last entry of that key and that place goes. Conditions: the receiver is a document's directory in memory; the key reads as bytes; F holds every block yet to be made. -/
import Derived.Test.YthekkddmbomimaaRefStrike
namespace Go.Proofs.Ythekkddmbomimaa
open Go.RowKit
set_option maxRecDepth 100000
attribute [local go_sem] Oper.semAt_some

set_option maxHeartbeats 4000000 in
theorem Delete_ref {F : Nat → Prop} {w : World} {q ql s : Nat} {L : List (List En)} (h : RefAt F w q ql s L) (hF : ∀ k, w.heap.size ≤ k → F k) {ks : List Value} {n t : Nat} (hk : IsKey ks n t) (at_ : Nat) (i : Nat) (hi : n % L.length = i) (l : List En) (hl : L[i]? = some l) :
    Calls Try.prog 22 #[.pointer (some ⟨q, 0, none⟩), .agg ks.toArray, .int .u32 at_] w fun e w' => e = .returned (.bool (mDel L i t at_).1) ∧ RefAt F w' q ql s (mDel L i t at_).2 ∧ Keeps F w w' := by
  have hks : Blk (w.alloc (.cells ks.toArray 23)) w.heap.size ks 23 := Blk.new w ks 23
  have hD1 : RefAt F (w.alloc (.cells ks.toArray 23)) q ql s L := h.below (Below.alloc1 _ _)
  have hcall := Bucket_ref hk (w.alloc (.cells ks.toArray 23)) q L.length L.length _ hD1.lts.1 h.b1 h.b4 (hD1.head.cell rfl)
  rw [hi] at hcall
  have hle := h.le l (List.mem_of_getElem? hl)
  have hs16 := h.s16
  have hit : i < L.length := (List.getElem?_eq_some_iff.1 hl).1
  have hL4 := h.b4
  have a1 : (0 : Int) ≤ i := by omega
  have a2 : (i : Int) < L.length := by omega
  have hok := h.ok l (List.mem_of_getElem? hl)
  have hne := h.ne
  have hgd : L.getD i [] = l := by simp [hl]
  have HC := Lib.hid hcall
  have HK := Lib.hid hks
  have HS := Lib.hid (size23k hk)
  have HL := Lib.hid hl
  have HOK := Lib.hid hok
  have HF := Lib.hid hF
  have HGD := Lib.hid hgd
  obtain ⟨i0, hi0, hz0, hs0, hb0⟩ := info_parts info55
  have HI0 := Lib.hid hi0
  have HZ0 := Lib.hid hz0
  have HS0 := Lib.hid hs0
  have HB0 := Lib.hid hb0
  clear hcall hks hl h hok hF hgd hi hi0 hz0 hs0 hb0
  have HD1 := Lib.hid hD1
  clear hD1
  go_enter Try.func22, Try.ntmps22
  go_wp2_with (first | (refine wpList_load_row rfl 23 _ rfl w.heap.size rfl 23 ks.toArray (0, 0) _ HK.out Try.underlying23 rfl HS.out ?_))
  refine HC.out.mono ?_
  rintro e w2 ⟨rfl, hb1⟩
  have hR2 : RefAt F w2 q ql s L := HD1.out.below hb1
  obtain ⟨v, cv, hv, hvF⟩ := hR2.slot i l HL.out
  obtain ⟨av, cv', rfl, hlc⟩ := hv.form
  have hcells : l.length = 0 ∨ ∃ b off, av = some ⟨b, off, none⟩ ∧ b < w2.heap.size ∧ ∀ j u, (cellsE l)[j]? = some u → w2.cell? ⟨b, off + j, none⟩ = some u := by
    obtain ⟨_, a', c', he, h0⟩ := hv.slr
    cases he; exact h0
  have c0 := hR2.head.cell (j := 0) rfl
  have hww2 : Keeps (fun _ => False) w w2 := (Keeps.alloc _ _ _).trans (Keeps.ofBelow hb1)
  have hks2 := HK.out.below' hb1
  have HR2 := Lib.hid hR2
  have HCV := Lib.hid cv
  have HV := Lib.hid hv
  have HVF := Lib.hid hvF
  have HCE := Lib.hid hcells
  have HW2 := Lib.hid hww2
  have HK2 := Lib.hid hks2
  have hql2 := hR2.lts.2
  clear hb1 hR2 hv hvF hcells hww2 HC HK hks2
  go_wp2
  have e0 : IntKind.i64.wrap ((l.length : Int) - 1) = (l.length : Int) - 1 := by rw [IntKind.wrap_i64]; omega
  go_loopw [9] (fun s9 wr => ∃ (r : Nat), s9 = .int .i64 ((r : Int) - 1) ∧ r ≤ l.length ∧ Hid (∀ m e', r ≤ m → l[m]? = some e' → (e'.tag == t && e'.at_ == at_) = false) ∧ Hid (Keeps (fun _ => False) w2 wr)) (fun s9 _ => (intOf s9 + 1).toNat)
  case atStart => exact ⟨l.length, by first | rfl | rw [e0], Nat.le_refl _, Lib.hid (fun m e' h1 h2 => by have := (List.getElem?_eq_some_iff.1 h2).1; omega), Lib.hid (Keeps.refl _ _)⟩
  case round =>
    obtain ⟨r, rfl, hr, hN, hK⟩ := hrel
    cases r with
    | zero =>
      have hdl : delLast (fun e => e.tag == t && e.at_ == at_) l = none := delLast_none (fun x hx => by
        obtain ⟨m, hm⟩ := List.getElem?_of_mem hx
        exact hN.out m x (Nat.zero_le _) hm)
      have hmd : mDel L i t at_ = (false, L) := by unfold mDel; rw [HGD.out, hdl]
      have HMD := Lib.hid hmd
      have a5 : ¬ (0 : Int) ≤ ((0 : Nat) : Int) - 1 := by omega
      clear hdl hmd
      go_wp2
      go_ret
      rw [HMD.out]
      exact ⟨rfl, HR2.out.keeps hK.out (fun _ _ h => h), (HW2.out.trans hK.out).mono (fun _ h => h.elim)⟩
    | succ r =>
      rcases HCE.out with h0 | ⟨b, off, rfl, hbl, hc⟩
      · omega
      obtain ⟨e, he⟩ : ∃ e, l[r]? = some e := ⟨l[r], by simp⟩
      obtain ⟨r0, r1, r2, r3⟩ := cellsE_at he
      have hcw : ∀ W, Keeps (fun _ => False) w2 W → W.cell? ⟨b, off + r * 4, none⟩ = some (.int .u16 e.tag) ∧ W.cell? ⟨b, off + r * 4 + 1, none⟩ = some (.int .u32 e.at_) := fun W k =>
        ⟨(k.cell (p := ⟨b, off + r * 4, none⟩) hbl id).trans (hc _ _ r0), (k.cell (p := ⟨b, off + r * 4 + 1, none⟩) hbl id).trans (hc _ _ r1)⟩
      have HCW := Lib.hid hcw
      have HE := Lib.hid he
      have e1 : ((r + 1 : Nat) : Int) - 1 = (r : Int) := by omega
      have b1 : (0 : Int) ≤ r := by omega
      have b2 : (r : Int) < l.length := by omega
      clear hcw he r0 r1 r2 r3 hc
      rw [e1]
      go_wp2
      have hS0 : Keeps (fun _ => False) w2 wr.drew := hK.out.trans (Keeps.drew _ _)
      refine wp_region_held_drew (S := fun w' => Keeps (fun _ => False) w2 w') (by kernel_rfl) hS0 (fun _ => ?_)
      refine take_at 0 (some 27) (.slice (some ⟨b, off, none⟩) l.length cv') rfl rfl (by kernel_rfl) (by kernel_rfl) (by kernel_rfl) (fun _ _ _ h => h) (.inl ⟨by rfl, fun w' hS => ?_⟩) hS0 ?_
      · go_simp
      try simp only [Act.put, List.setIfInBounds_toArray, List.set_cons_zero, List.set_cons_succ]
      refine take_at 1 (some 28) (.int .i64 r) rfl rfl (by kernel_rfl) (by kernel_rfl) (by kernel_rfl) (fun _ _ _ h => h) (.inl ⟨by rfl, fun w' hS => ?_⟩) hS0 ?_
      · go_simp
      try simp only [Act.put, List.setIfInBounds_toArray, List.set_cons_zero, List.set_cons_succ]
      refine take_at 2 (some 29) (.pointer (some ⟨b, off + r * 4, none⟩)) rfl rfl (by kernel_rfl) (by kernel_rfl) (by kernel_rfl) (fun _ _ _ h => h) (.inl ⟨by rfl, fun w' hS => ?_⟩) hS0 ?_
      · go_simp
      try simp only [Act.put, List.setIfInBounds_toArray, List.set_cons_zero, List.set_cons_succ]
      refine take_at 3 (some 30) (.pointer (some ⟨b, off + r * 4, none⟩)) rfl rfl (by kernel_rfl) (by kernel_rfl) (by kernel_rfl) (fun _ _ _ h => h) (.inl ⟨by rfl, fun w' hS => ?_⟩) hS0 ?_
      · go_simp
      try simp only [Act.put, List.setIfInBounds_toArray, List.set_cons_zero, List.set_cons_succ]
      refine take_at 4 (some 31) (.int .u16 e.tag) rfl rfl (by kernel_rfl) (by kernel_rfl) (by kernel_rfl) (fun _ _ _ h => h) (.inl ⟨by rfl, fun w' hS => ?_⟩) hS0 ?_
      · have := (HCW.out w' hS).1
        go_simp
      try simp only [Act.put, List.setIfInBounds_toArray, List.set_cons_zero, List.set_cons_succ]
      refine take_at 5 (some 32) (.agg ks.toArray) rfl rfl (by kernel_rfl) (by kernel_rfl) (by kernel_rfl) (fun _ _ _ h => h) (.inl ⟨by rfl, fun w' hS => ?_⟩) hS0 ?_
      · exact run_load_blk (HK2.out.keeps hS id) 23 _ Try.underlying23 rfl HS.out _ _ (.tmp 4) rfl rfl
      try simp only [Act.put, List.setIfInBounds_toArray, List.set_cons_zero, List.set_cons_succ]
      refine wpAnyH_all (rs := [6]) (by kernel_rfl) (by simp) ?_
      intro i6 hi6
      obtain rfl : i6 = 6 := by simpa using hi6
      refine call_atG (some 33) rfl rfl rfl 12 #[.agg ks.toArray] ?_ ?_
      · go_simp
      refine (Tag_ref hk _).mono ?_
      rintro ee w4 ⟨rfl, hb4⟩
      have hS4 : Keeps (fun _ => False) w2 w4 := hS0.trans (Keeps.ofBelow hb4)
      refine ⟨_, rfl, hS4, ?_⟩
      try simp only [Act.put, List.setIfInBounds_toArray, List.set_cons_zero, List.set_cons_succ]
      cases hb : (e.tag == t) with
      | false =>
        have hbi : ((e.tag : Int) == (t : Int)) = false := by
          have := beq_eq_false_iff_ne.1 hb
          exact beq_eq_false_iff_ne.2 (by omega)
        refine take_at 7 (some 34) (.bool false) rfl rfl (by kernel_rfl) (by kernel_rfl) (by kernel_rfl) (fun _ _ _ h => h) (.inl ⟨by rfl, fun w' hS => ?_⟩) hS4 ?_
        · go_simp
        try simp only [Act.put, List.setIfInBounds_toArray, List.set_cons_zero, List.set_cons_succ]
        refine take_at 8 (some 35) (.bool false) rfl rfl (by kernel_rfl) (by kernel_rfl) (by kernel_rfl) (fun _ _ _ h => h) (.inl ⟨by rfl, fun w' hS => ?_⟩) hS4 ?_
        · go_simp
        try simp only [Act.put, List.setIfInBounds_toArray, List.set_cons_zero, List.set_cons_succ]
        refine take_at 9 (some 36) undef rfl rfl (by kernel_rfl) (by kernel_rfl) (by kernel_rfl) (fun _ _ _ h => h) (.inr ⟨by rfl, rfl⟩) hS4 ?_
        try simp only [Act.put, List.setIfInBounds_toArray, List.set_cons_zero, List.set_cons_succ]
        refine take_at 10 (some 37) undef rfl rfl (by kernel_rfl) (by kernel_rfl) (by kernel_rfl) (fun _ _ _ h => h) (.inr ⟨by rfl, rfl⟩) hS4 ?_
        try simp only [Act.put, List.setIfInBounds_toArray, List.set_cons_zero, List.set_cons_succ]
        refine take_at 11 (some 38) undef rfl rfl (by kernel_rfl) (by kernel_rfl) (by kernel_rfl) (fun _ _ _ h => h) (.inr ⟨by rfl, rfl⟩) hS4 ?_
        try simp only [Act.put, List.setIfInBounds_toArray, List.set_cons_zero, List.set_cons_succ]
        refine take_at 12 (some 39) undef rfl rfl (by kernel_rfl) (by kernel_rfl) (by kernel_rfl) (fun _ _ _ h => h) (.inr ⟨by rfl, rfl⟩) hS4 ?_
        try simp only [Act.put, List.setIfInBounds_toArray, List.set_cons_zero, List.set_cons_succ]
        refine take_at 13 (some 40) undef rfl rfl (by kernel_rfl) (by kernel_rfl) (by kernel_rfl) (fun _ _ _ h => h) (.inr ⟨by rfl, rfl⟩) hS4 ?_
        try simp only [Act.put, List.setIfInBounds_toArray, List.set_cons_zero, List.set_cons_succ]
        refine take_at 14 (some 41) undef rfl rfl (by kernel_rfl) (by kernel_rfl) (by kernel_rfl) (fun _ _ _ h => h) (.inr ⟨by rfl, rfl⟩) hS4 ?_
        try simp only [Act.put, List.setIfInBounds_toArray, List.set_cons_zero, List.set_cons_succ]
        refine take_at 15 (some 42) undef rfl rfl (by kernel_rfl) (by kernel_rfl) (by kernel_rfl) (fun _ _ _ h => h) (.inr ⟨by rfl, rfl⟩) hS4 ?_
        try simp only [Act.put, List.setIfInBounds_toArray, List.set_cons_zero, List.set_cons_succ]
        refine take_at 16 (some 43) (.bool false) rfl rfl (by kernel_rfl) (by kernel_rfl) (by kernel_rfl) (fun _ _ _ h => h) (.inl ⟨by rfl, fun w' hS => ?_⟩) hS4 ?_
        · go_simp
        try simp only [Act.put, List.setIfInBounds_toArray, List.set_cons_zero, List.set_cons_succ]
        refine wpAnyH_done (by kernel_rfl) ?_ _
        have hN' : ∀ m e', r ≤ m → l[m]? = some e' → (e'.tag == t && e'.at_ == at_) = false := by
          intro m e' h1 h2
          by_cases hm : m = r
          · subst hm
            rw [HE.out] at h2
            obtain rfl := Option.some.inj h2
            simp [hb]
          · exact hN.out m e' (by omega) h2
        have N4 := Lib.hid hN'
        have K4 := Lib.hid hS4
        clear hN' hS4 hS0 hb4
        go_wp2
        go_roundw
        case rel => exact ⟨r, by go_num, by omega, N4, K4⟩
        case measure => simp [intOf]
      | true =>
        cases ha : (e.at_ == at_) with
        | false =>
          have hbi : ((e.tag : Int) == (t : Int)) = true := by
            have := beq_iff_eq.1 hb
            exact beq_iff_eq.2 (by omega)
          have hai : ((e.at_ : Int) == (at_ : Int)) = false := by
            have := beq_eq_false_iff_ne.1 ha
            exact beq_eq_false_iff_ne.2 (by omega)
          refine take_at 7 (some 34) (.bool true) rfl rfl (by kernel_rfl) (by kernel_rfl) (by kernel_rfl) (fun _ _ _ h => h) (.inl ⟨by rfl, fun w' hS => ?_⟩) hS4 ?_
          · go_simp
          try simp only [Act.put, List.setIfInBounds_toArray, List.set_cons_zero, List.set_cons_succ]
          refine take_at 8 (some 35) (.bool true) rfl rfl (by kernel_rfl) (by kernel_rfl) (by kernel_rfl) (fun _ _ _ h => h) (.inl ⟨by rfl, fun w' hS => ?_⟩) hS4 ?_
          · go_simp
          try simp only [Act.put, List.setIfInBounds_toArray, List.set_cons_zero, List.set_cons_succ]
          refine take_at 9 (some 36) (.slice (some ⟨b, off, none⟩) l.length cv') rfl rfl (by kernel_rfl) (by kernel_rfl) (by kernel_rfl) (fun _ _ _ h => h) (.inl ⟨by rfl, fun w' hS => ?_⟩) hS4 ?_
          · go_simp
          try simp only [Act.put, List.setIfInBounds_toArray, List.set_cons_zero, List.set_cons_succ]
          refine take_at 10 (some 37) (.int .i64 r) rfl rfl (by kernel_rfl) (by kernel_rfl) (by kernel_rfl) (fun _ _ _ h => h) (.inl ⟨by rfl, fun w' hS => ?_⟩) hS4 ?_
          · go_simp
          try simp only [Act.put, List.setIfInBounds_toArray, List.set_cons_zero, List.set_cons_succ]
          refine take_at 11 (some 38) (.pointer (some ⟨b, off + r * 4, none⟩)) rfl rfl (by kernel_rfl) (by kernel_rfl) (by kernel_rfl) (fun _ _ _ h => h) (.inl ⟨by rfl, fun w' hS => ?_⟩) hS4 ?_
          · go_simp
          try simp only [Act.put, List.setIfInBounds_toArray, List.set_cons_zero, List.set_cons_succ]
          refine take_at 12 (some 39) (.pointer (some ⟨b, off + r * 4 + 1, none⟩)) rfl rfl (by kernel_rfl) (by kernel_rfl) (by kernel_rfl) (fun _ _ _ h => h) (.inl ⟨by rfl, fun w' hS => ?_⟩) hS4 ?_
          · go_simp
          try simp only [Act.put, List.setIfInBounds_toArray, List.set_cons_zero, List.set_cons_succ]
          refine take_at 13 (some 40) (.int .u32 e.at_) rfl rfl (by kernel_rfl) (by kernel_rfl) (by kernel_rfl) (fun _ _ _ h => h) (.inl ⟨by rfl, fun w' hS => ?_⟩) hS4 ?_
          · have := (HCW.out w' hS).2
            go_simp
          try simp only [Act.put, List.setIfInBounds_toArray, List.set_cons_zero, List.set_cons_succ]
          refine take_at 14 (some 41) (.int .u32 at_) rfl rfl (by kernel_rfl) (by kernel_rfl) (by kernel_rfl) (fun _ _ _ h => h) (.inl ⟨by rfl, fun w' hS => ?_⟩) hS4 ?_
          · go_simp
          try simp only [Act.put, List.setIfInBounds_toArray, List.set_cons_zero, List.set_cons_succ]
          refine take_at 15 (some 42) (.bool false) rfl rfl (by kernel_rfl) (by kernel_rfl) (by kernel_rfl) (fun _ _ _ h => h) (.inl ⟨by rfl, fun w' hS => ?_⟩) hS4 ?_
          · go_simp
          try simp only [Act.put, List.setIfInBounds_toArray, List.set_cons_zero, List.set_cons_succ]
          refine take_at 16 (some 43) (.bool false) rfl rfl (by kernel_rfl) (by kernel_rfl) (by kernel_rfl) (fun _ _ _ h => h) (.inl ⟨by rfl, fun w' hS => ?_⟩) hS4 ?_
          · go_simp
          try simp only [Act.put, List.setIfInBounds_toArray, List.set_cons_zero, List.set_cons_succ]
          refine wpAnyH_done (by kernel_rfl) ?_ _
          have hN' : ∀ m e', r ≤ m → l[m]? = some e' → (e'.tag == t && e'.at_ == at_) = false := by
            intro m e' h1 h2
            by_cases hm : m = r
            · subst hm
              rw [HE.out] at h2
              obtain rfl := Option.some.inj h2
              simp [ha]
            · exact hN.out m e' (by omega) h2
          have N4 := Lib.hid hN'
          have K4 := Lib.hid hS4
          clear hN' hS4 hS0 hb4
          go_wp2
          go_roundw
          case rel => exact ⟨r, by go_num, by omega, N4, K4⟩
          case measure => simp [intOf]
        | true =>
          have hbi : ((e.tag : Int) == (t : Int)) = true := by
            have := beq_iff_eq.1 hb
            exact beq_iff_eq.2 (by omega)
          have hai : ((e.at_ : Int) == (at_ : Int)) = true := by
            have := beq_iff_eq.1 ha
            exact beq_iff_eq.2 (by omega)
          refine take_at 7 (some 34) (.bool true) rfl rfl (by kernel_rfl) (by kernel_rfl) (by kernel_rfl) (fun _ _ _ h => h) (.inl ⟨by rfl, fun w' hS => ?_⟩) hS4 ?_
          · go_simp
          try simp only [Act.put, List.setIfInBounds_toArray, List.set_cons_zero, List.set_cons_succ]
          refine take_at 8 (some 35) (.bool true) rfl rfl (by kernel_rfl) (by kernel_rfl) (by kernel_rfl) (fun _ _ _ h => h) (.inl ⟨by rfl, fun w' hS => ?_⟩) hS4 ?_
          · go_simp
          try simp only [Act.put, List.setIfInBounds_toArray, List.set_cons_zero, List.set_cons_succ]
          refine take_at 9 (some 36) (.slice (some ⟨b, off, none⟩) l.length cv') rfl rfl (by kernel_rfl) (by kernel_rfl) (by kernel_rfl) (fun _ _ _ h => h) (.inl ⟨by rfl, fun w' hS => ?_⟩) hS4 ?_
          · go_simp
          try simp only [Act.put, List.setIfInBounds_toArray, List.set_cons_zero, List.set_cons_succ]
          refine take_at 10 (some 37) (.int .i64 r) rfl rfl (by kernel_rfl) (by kernel_rfl) (by kernel_rfl) (fun _ _ _ h => h) (.inl ⟨by rfl, fun w' hS => ?_⟩) hS4 ?_
          · go_simp
          try simp only [Act.put, List.setIfInBounds_toArray, List.set_cons_zero, List.set_cons_succ]
          refine take_at 11 (some 38) (.pointer (some ⟨b, off + r * 4, none⟩)) rfl rfl (by kernel_rfl) (by kernel_rfl) (by kernel_rfl) (fun _ _ _ h => h) (.inl ⟨by rfl, fun w' hS => ?_⟩) hS4 ?_
          · go_simp
          try simp only [Act.put, List.setIfInBounds_toArray, List.set_cons_zero, List.set_cons_succ]
          refine take_at 12 (some 39) (.pointer (some ⟨b, off + r * 4 + 1, none⟩)) rfl rfl (by kernel_rfl) (by kernel_rfl) (by kernel_rfl) (fun _ _ _ h => h) (.inl ⟨by rfl, fun w' hS => ?_⟩) hS4 ?_
          · go_simp
          try simp only [Act.put, List.setIfInBounds_toArray, List.set_cons_zero, List.set_cons_succ]
          refine take_at 13 (some 40) (.int .u32 e.at_) rfl rfl (by kernel_rfl) (by kernel_rfl) (by kernel_rfl) (fun _ _ _ h => h) (.inl ⟨by rfl, fun w' hS => ?_⟩) hS4 ?_
          · have := (HCW.out w' hS).2
            go_simp
          try simp only [Act.put, List.setIfInBounds_toArray, List.set_cons_zero, List.set_cons_succ]
          refine take_at 14 (some 41) (.int .u32 at_) rfl rfl (by kernel_rfl) (by kernel_rfl) (by kernel_rfl) (fun _ _ _ h => h) (.inl ⟨by rfl, fun w' hS => ?_⟩) hS4 ?_
          · go_simp
          try simp only [Act.put, List.setIfInBounds_toArray, List.set_cons_zero, List.set_cons_succ]
          refine take_at 15 (some 42) (.bool true) rfl rfl (by kernel_rfl) (by kernel_rfl) (by kernel_rfl) (fun _ _ _ h => h) (.inl ⟨by rfl, fun w' hS => ?_⟩) hS4 ?_
          · go_simp
          try simp only [Act.put, List.setIfInBounds_toArray, List.set_cons_zero, List.set_cons_succ]
          refine take_at 16 (some 43) (.bool true) rfl rfl (by kernel_rfl) (by kernel_rfl) (by kernel_rfl) (fun _ _ _ h => h) (.inl ⟨by rfl, fun w' hS => ?_⟩) hS4 ?_
          · go_simp
          try simp only [Act.put, List.setIfInBounds_toArray, List.set_cons_zero, List.set_cons_succ]
          refine wpAnyH_done (by kernel_rfl) ?_ _
          have hdl : delLast (fun e => e.tag == t && e.at_ == at_) l = some (l.eraseIdx r) := delLast_some HE.out (by simp [hb, ha]) (fun m e' hm he => hN.out m e' (by omega) he)
          have hmd : mDel L i t at_ = (true, L.set i (l.eraseIdx r)) := by unfold mDel; rw [HGD.out, hdl]
          have HMD := Lib.hid hmd
          have K4 := Lib.hid hS4
          have e2 : IntKind.i64.wrap ((r : Int) + 1) = (r : Int) + 1 := by rw [IntKind.wrap_i64]; omega
          have b3 : (r : Int) + 1 ≤ l.length := by omega
          have b4 : (0 : Int) ≤ (r : Int) + 1 := by omega
          have b5 : (r : Int) ≤ cv' := by omega
          have e3 : ((r : Int) + 1).toNat = r + 1 := by omega
          have HRM := Lib.hid (show ∀ x ∈ l.eraseIdx r, x.ok from fun x hx => HOK.out x (List.mem_of_mem_eraseIdx hx))
          clear hdl hmd hS4 hS0 hb4
          go_wp2
          have hh0 : Blk w4.drew q [.slice (some ⟨ql, 0, none⟩) L.length L.length, .int .i64 s] 72 := (HR2.out.head.keeps K4.out id).drew
          refine wp_region_held_drew (S := fun w' => Blk w' q [.slice (some ⟨ql, 0, none⟩) L.length L.length, .int .i64 s] 72) (by kernel_rfl) hh0 (fun _ => ?_)
          refine take_at 0 (some 44) (.pointer (some ⟨q, 0, none⟩)) rfl rfl (by kernel_rfl) (by kernel_rfl) (by kernel_rfl) (fun _ _ _ h => h) (.inl ⟨by rfl, fun w' hS => ?_⟩) hh0 ?_
          · go_simp
          try simp only [Act.put, List.setIfInBounds_toArray, List.set_cons_zero, List.set_cons_succ]
          refine take_at 1 (some 45) (.pointer (some ⟨q, 0, none⟩)) rfl rfl (by kernel_rfl) (by kernel_rfl) (by kernel_rfl) (fun _ _ _ h => h) (.inl ⟨by rfl, fun w' hS => ?_⟩) hh0 ?_
          · go_simp
          try simp only [Act.put, List.setIfInBounds_toArray, List.set_cons_zero, List.set_cons_succ]
          refine take_at 2 (some 46) (.pointer (some ⟨q, 0, none⟩)) rfl rfl (by kernel_rfl) (by kernel_rfl) (by kernel_rfl) (fun _ _ _ h => h) (.inl ⟨by rfl, fun w' hS => ?_⟩) hh0 ?_
          · go_simp
          try simp only [Act.put, List.setIfInBounds_toArray, List.set_cons_zero, List.set_cons_succ]
          refine take_at 3 (some 47) (.slice (some ⟨ql, 0, none⟩) L.length L.length) rfl rfl (by kernel_rfl) (by kernel_rfl) (by kernel_rfl) (fun _ _ _ h => h) (.inl ⟨by rfl, fun w' hS => ?_⟩) hh0 ?_
          · have := hS.cell (j := 0) rfl
            go_simp
          try simp only [Act.put, List.setIfInBounds_toArray, List.set_cons_zero, List.set_cons_succ]
          refine take_at 4 (some 48) (.int .i64 i) rfl rfl (by kernel_rfl) (by kernel_rfl) (by kernel_rfl) (fun _ _ _ h => h) (.inl ⟨by rfl, fun w' hS => ?_⟩) hh0 ?_
          · go_simp
          try simp only [Act.put, List.setIfInBounds_toArray, List.set_cons_zero, List.set_cons_succ]
          refine take_at 5 (some 49) (.slice (some ⟨b, off, none⟩) l.length cv') rfl rfl (by kernel_rfl) (by kernel_rfl) (by kernel_rfl) (fun _ _ _ h => h) (.inl ⟨by rfl, fun w' hS => ?_⟩) hh0 ?_
          · go_simp
          try simp only [Act.put, List.setIfInBounds_toArray, List.set_cons_zero, List.set_cons_succ]
          refine take_at 6 (some 50) (.int .i64 r) rfl rfl (by kernel_rfl) (by kernel_rfl) (by kernel_rfl) (fun _ _ _ h => h) (.inl ⟨by rfl, fun w' hS => ?_⟩) hh0 ?_
          · go_simp
          try simp only [Act.put, List.setIfInBounds_toArray, List.set_cons_zero, List.set_cons_succ]
          refine take_at 7 (some 51) (.int .i64 r) rfl rfl (by kernel_rfl) (by kernel_rfl) (by kernel_rfl) (fun _ _ _ h => h) (.inl ⟨by rfl, fun w' hS => ?_⟩) hh0 ?_
          · go_simp
          try simp only [Act.put, List.setIfInBounds_toArray, List.set_cons_zero, List.set_cons_succ]
          refine take_at 8 (some 52) (.slice (some ⟨b, off, none⟩) r r) rfl rfl (by kernel_rfl) (by kernel_rfl) (by kernel_rfl) (fun _ _ _ h => h) (.inl ⟨by rfl, fun w' hS => ?_⟩) hh0 ?_
          · go_simp
          try simp only [Act.put, List.setIfInBounds_toArray, List.set_cons_zero, List.set_cons_succ]
          refine take_at 9 (some 53) (.slice (some ⟨b, off, none⟩) l.length cv') rfl rfl (by kernel_rfl) (by kernel_rfl) (by kernel_rfl) (fun _ _ _ h => h) (.inl ⟨by rfl, fun w' hS => ?_⟩) hh0 ?_
          · go_simp
          try simp only [Act.put, List.setIfInBounds_toArray, List.set_cons_zero, List.set_cons_succ]
          refine take_at 10 (some 54) (.int .i64 r) rfl rfl (by kernel_rfl) (by kernel_rfl) (by kernel_rfl) (fun _ _ _ h => h) (.inl ⟨by rfl, fun w' hS => ?_⟩) hh0 ?_
          · go_simp
          try simp only [Act.put, List.setIfInBounds_toArray, List.set_cons_zero, List.set_cons_succ]
          refine take_at 11 (some 55) (.int .i64 ((r : Int) + 1)) rfl rfl (by kernel_rfl) (by kernel_rfl) (by kernel_rfl) (fun _ _ _ h => h) (.inl ⟨by rfl, fun w' hS => ?_⟩) hh0 ?_
          · go_simp
          try simp only [Act.put, List.setIfInBounds_toArray, List.set_cons_zero, List.set_cons_succ]
          obtain ⟨xa, hxa⟩ : ∃ xa, (if cv' = r + 1 then some ⟨b, off, none⟩ else (some ⟨b, off, none⟩ : Option Addr).map (·.add ((r + 1) * 4))) = xa := ⟨_, rfl⟩
          have HXA := Lib.hid hxa
          clear hxa
          refine take_at 12 (some 56) (.slice xa (l.length - (r + 1)) (cv' - (r + 1))) rfl rfl (by kernel_rfl) (by kernel_rfl) (by kernel_rfl) (fun _ _ _ h => h) (.inl ⟨by rfl, fun w' hS => ?_⟩) hh0 ?_
          · rw [← HXA.out]; go_simp
          try simp only [Act.put, List.setIfInBounds_toArray, List.set_cons_zero, List.set_cons_succ]
          refine wpAnyH_all (rs := [13]) (by kernel_rfl) (by simp) ?_
          intro i13 hi13
          obtain rfl : i13 = 13 := by simpa using hi13
          have hv4 : SlOwn w4.drew (.slice (some ⟨b, off, none⟩) l.length cv') 55 4 l.length (cellsE l) := (HV.out.keeps K4.out (fun _ _ h => h)).keeps (Keeps.drew (fun _ => False) _) (fun _ _ h => h)
          obtain ⟨v', w6, hrun, hown, hk6, hbk⟩ := run_strike (P := Try.prog) 45 55 i0 _ Try.underlying45 HI0.out HZ0.out HS0.out HB0.out rfl _ cv' l hv4 r (by omega) (by omega)
          rw [HXA.out] at hrun
          refine run_at (some 57) v' rfl rfl rfl (run_appendOp (.tmp 52) (.tmp 56) 45 45 rfl v' hrun) ?_
          have hh6 : Blk w6 q [.slice (some ⟨ql, 0, none⟩) L.length L.length, .int .i64 s] 72 := hh0.keeps hk6 id
          have hk26 : Keeps (fun _ => False) w2 w6 := (K4.out.trans (Keeps.drew _ _)).trans hk6
          have cv6 : w6.cell? ⟨ql, i, none⟩ = some (.slice (some ⟨b, off, none⟩) l.length cv') := (hk26.cell (p := ⟨ql, i, none⟩) hql2 id).trans HCV.out
          have hw2s : w.heap.size ≤ w2.heap.size := HW2.out.size
          have hle6 : (l.eraseIdx r).length ≤ s := Nat.le_trans (List.length_eraseIdx_le _ _) hle
          have hput := HR2.out.put i l HL.out _ HCV.out (hk26.mono (fun _ h => h.elim)) v' (l.eraseIdx r) hown (fun g hg => by
            rcases hbk g hg with e | e
            · exact ⟨(HVF.out g e).1, .inl e⟩
            · have h26 := hk26.size
              have h4 : w2.heap.size ≤ w4.drew.heap.size := K4.out.size
              exact ⟨HF.out g (by omega), .inr (by omega)⟩) HRM.out hle6
          have f6 : w6.frozen? ⟨ql, i, none⟩ = false := by
            obtain ⟨vs, hvs, _⟩ := HR2.out.list
            exact (hvs.keeps hk26 id).frozen i
          have hkF : Keeps F w (w6.setCell ⟨ql, i, none⟩ v') := (HW2.out.mono (fun _ h => h.elim)).trans hput.2
          refine ⟨hh6, ?_⟩
          try simp only [Act.put, List.setIfInBounds_toArray, List.set_cons_zero, List.set_cons_succ]
          refine take_at 14 (some 58) (.pointer (some ⟨ql, i, none⟩)) rfl rfl (by kernel_rfl) (by kernel_rfl) (by kernel_rfl) (fun _ _ _ h => h) (.inl ⟨by rfl, fun w' hS => ?_⟩) hh6 ?_
          · go_simp
          try simp only [Act.put, List.setIfInBounds_toArray, List.set_cons_zero, List.set_cons_succ]
          refine wpAnyH_all (rs := [15]) (by kernel_rfl) (by simp) ?_
          intro i15 hi15
          obtain rfl : i15 = 15 := by simpa using hi15
          obtain ⟨av', cv'', rfl, _⟩ := hown.form
          refine skip_at (w' := w6.setCell ⟨ql, i, none⟩ (.slice av' (l.eraseIdx r).length cv'')) rfl rfl (by go_simp) ?_
          have hS7 : Blk (w6.setCell ⟨ql, i, none⟩ (.slice av' (l.eraseIdx r).length cv'')) q [.slice (some ⟨ql, 0, none⟩) L.length L.length, .int .i64 s] 72 := hh6.setCellOther _ _ hne
          refine ⟨hS7, ?_⟩
          refine wpAnyH_done (by kernel_rfl) ?_ _
          have HPUT := Lib.hid hput.1
          have HKF := Lib.hid hkF
          clear hput hkF hS7 hh6 hh0 hrun hown hk6 hbk hk26 cv6 f6 hv4
          go_wp2
          go_ret
          rw [HMD.out]
          exact ⟨rfl, HPUT.out, HKF.out⟩
end Go.Proofs.Ythekkddmbomimaa
