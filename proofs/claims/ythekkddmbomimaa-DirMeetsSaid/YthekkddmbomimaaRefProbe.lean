/- The contract of the document's Probe: the key's entries, the last one first. Conditions: the receiver is a document's directory in memory; the key reads as bytes. -/
import Derived.Test.YthekkddmbomimaaRefIns
namespace Go.Proofs.Ythekkddmbomimaa
open Go.RowKit
set_option maxRecDepth 100000
attribute [local go_sem] Oper.semAt_some

def outR (t : Nat) (l : List En) (r : Nat) : List En := (l.drop r).reverse.filter fun e => e.tag == t
theorem outR_step (t : Nat) (l : List En) (r : Nat) (e : En) (h : l[r]? = some e) : outR t l r = outR t l (r + 1) ++ if e.tag == t then [e] else [] := by
  unfold outR
  have hr := (List.getElem?_eq_some_iff.1 h).1
  rw [List.drop_eq_getElem_cons hr, List.reverse_cons, List.filter_append]
  have : l[r] = e := (List.getElem?_eq_some_iff.1 h).2
  rw [this]
  cases hb : (e.tag == t) <;> simp [hb]
theorem outR_le (t : Nat) (l : List En) (r : Nat) : (outR t l r).length ≤ l.length := by
  unfold outR
  refine Nat.le_trans (List.length_filter_le _ _) ?_
  simp

set_option maxHeartbeats 2000000 in
theorem Probe_ref {F : Nat → Prop} {w : World} {q ql s : Nat} {L : List (List En)} (h : RefAt F w q ql s L) {ks : List Value} {n t : Nat} (hk : IsKey ks n t) (i : Nat) (hi : n % L.length = i) (l : List En) (hl : L[i]? = some l) (X : List En) (hX : (l.reverse.filter fun e => e.tag == t) = X) :
    Calls Try.prog 25 #[.pointer (some ⟨q, 0, none⟩), .agg ks.toArray] w fun e w' => ∃ v, e = .returned v ∧ SlR w' v 4 X.length (cellsE X) ∧ Keeps (fun _ => False) w w' := by
  have hks : Blk (w.alloc (.cells ks.toArray 23)) w.heap.size ks 23 := Blk.new w ks 23
  have hD1 : RefAt F (w.alloc (.cells ks.toArray 23)) q ql s L := h.below (Below.alloc1 _ _)
  obtain ⟨v, cv0, hv0, hvF⟩ := hD1.slot i l hl
  obtain ⟨av, cv', rfl, _⟩ := hv0.form
  have hle := h.le l (List.mem_of_getElem? hl)
  have hs16 := h.s16
  have hit : i < L.length := (List.getElem?_eq_some_iff.1 hl).1
  have hL4 := h.b4
  have a1 : (0 : Int) ≤ i := by omega
  have a2 : (i : Int) < L.length := by omega
  obtain ⟨hq, hql⟩ := h.lts
  have hok := h.ok l (List.mem_of_getElem? hl)
  have hcells : l.length = 0 ∨ ∃ b off, av = some ⟨b, off, none⟩ ∧ b < (w.alloc (.cells ks.toArray 23)).heap.size ∧ ∀ j u, (cellsE l)[j]? = some u → (w.alloc (.cells ks.toArray 23)).cell? ⟨b, off + j, none⟩ = some u := by
    obtain ⟨_, a', c', he, h0⟩ := hv0.slr
    cases he; exact h0
  have HK := Lib.hid hks
  have HS := Lib.hid (size23k hk)
  have HD := Lib.hid hD1
  have HCV := Lib.hid cv0
  have HX := Lib.hid hX
  have HOK := Lib.hid hok
  have HCE := Lib.hid hcells
  have HI := Lib.hid hi
  obtain ⟨i0, hi0, hz0, hs0, hb0⟩ := info_parts info55
  have HI0 := Lib.hid hi0
  have HZ0 := Lib.hid hz0
  have HS0 := Lib.hid hs0
  have HB0 := Lib.hid hb0
  have hnil := Lib.hid (SlOwn.nil (w.alloc (.cells ks.toArray 23)) 55 4)
  clear hks hD1 cv0 hv0 hvF hX hok hcells h hl hi hi0 hz0 hs0 hb0
  go_enter Try.func25, Try.ntmps25
  go_wp2
  have hT0 : Keeps (fun _ => False) (w.alloc (.cells ks.toArray 23)) (w.alloc (.cells ks.toArray 23)).drew := Keeps.drew _ _
  refine wp_region_held_drew (S := fun w' => Keeps (fun _ => False) (w.alloc (.cells ks.toArray 23)) w') (by kernel_rfl) hT0 (fun _ => ?_)
  refine take_at 0 (some 8) (.pointer (some ⟨q, 0, none⟩)) rfl rfl (by kernel_rfl) (by kernel_rfl) (by kernel_rfl) (fun _ _ _ h => h) (.inl ⟨by rfl, fun w' hS => ?_⟩) hT0 ?_
  · go_simp
  try simp only [Act.put, List.setIfInBounds_toArray, List.set_cons_zero, List.set_cons_succ]
  refine take_at 1 (some 9) (.pointer (some ⟨q, 0, none⟩)) rfl rfl (by kernel_rfl) (by kernel_rfl) (by kernel_rfl) (fun _ _ _ h => h) (.inl ⟨by rfl, fun w' hS => ?_⟩) hT0 ?_
  · go_simp
  try simp only [Act.put, List.setIfInBounds_toArray, List.set_cons_zero, List.set_cons_succ]
  refine take_at 2 (some 10) (.pointer (some ⟨q, 0, none⟩)) rfl rfl (by kernel_rfl) (by kernel_rfl) (by kernel_rfl) (fun _ _ _ h => h) (.inl ⟨by rfl, fun w' hS => ?_⟩) hT0 ?_
  · go_simp
  try simp only [Act.put, List.setIfInBounds_toArray, List.set_cons_zero, List.set_cons_succ]
  refine take_at 3 (some 11) (.slice (some ⟨ql, 0, none⟩) L.length L.length) rfl rfl (by kernel_rfl) (by kernel_rfl) (by kernel_rfl) (fun _ _ _ h => h) (.inl ⟨by rfl, fun w' hS => ?_⟩) hT0 ?_
  · have := (HD.out.head.keeps hS id).cell (j := 0) rfl
    go_simp
  try simp only [Act.put, List.setIfInBounds_toArray, List.set_cons_zero, List.set_cons_succ]
  refine take_at 4 (some 12) (.pointer (some ⟨q, 0, none⟩)) rfl rfl (by kernel_rfl) (by kernel_rfl) (by kernel_rfl) (fun _ _ _ h => h) (.inl ⟨by rfl, fun w' hS => ?_⟩) hT0 ?_
  · go_simp
  try simp only [Act.put, List.setIfInBounds_toArray, List.set_cons_zero, List.set_cons_succ]
  refine take_at 5 (some 13) (.agg ks.toArray) rfl rfl (by kernel_rfl) (by kernel_rfl) (by kernel_rfl) (fun _ _ _ h => h) (.inl ⟨by rfl, fun w' hS => ?_⟩) hT0 ?_
  · exact run_load_blk (HK.out.keeps hS id) 23 _ Try.underlying23 rfl HS.out _ _ (.tmp 3) rfl rfl
  try simp only [Act.put, List.setIfInBounds_toArray, List.set_cons_zero, List.set_cons_succ]
  refine wpAnyH_all (rs := [6]) (by kernel_rfl) (by simp) ?_
  intro i6 hi6
  obtain rfl : i6 = 6 := by simpa using hi6
  refine call_atG (some 14) rfl rfl rfl 16 #[.pointer (some ⟨q, 0, none⟩), .agg ks.toArray] ?_ ?_
  · go_simp
  have hDd := HD.out.keeps hT0 (fun _ _ h => h)
  refine (Bucket_ref hk _ q L.length L.length _ hDd.lts.1 hDd.b1 hDd.b4 (hDd.head.cell rfl)).mono ?_
  rintro e w2 ⟨rfl, hb2⟩
  rw [HI.out]
  have hT2 : Keeps (fun _ => False) (w.alloc (.cells ks.toArray 23)) w2 := hT0.trans (Keeps.ofBelow hb2)
  refine ⟨_, rfl, hT2, ?_⟩
  try simp only [Act.put, List.setIfInBounds_toArray, List.set_cons_zero, List.set_cons_succ]
  refine take_at 7 (some 15) (.pointer (some ⟨ql, i, none⟩)) rfl rfl (by kernel_rfl) (by kernel_rfl) (by kernel_rfl) (fun _ _ _ h => h) (.inl ⟨by rfl, fun w' hS => ?_⟩) hT2 ?_
  · go_simp
  try simp only [Act.put, List.setIfInBounds_toArray, List.set_cons_zero, List.set_cons_succ]
  refine take_at 8 (some 16) (.slice av l.length cv') rfl rfl (by kernel_rfl) (by kernel_rfl) (by kernel_rfl) (fun _ _ _ h => h) (.inl ⟨by rfl, fun w' hS => ?_⟩) hT2 ?_
  · have := (hS.cell (p := ⟨ql, i, none⟩) (by simp; omega) id).trans HCV.out
    go_simp
  try simp only [Act.put, List.setIfInBounds_toArray, List.set_cons_zero, List.set_cons_succ]
  refine take_at 9 (some 5) (.slice av l.length cv') rfl rfl (by kernel_rfl) (by kernel_rfl) (by kernel_rfl) (fun _ _ _ h => h) (.inl ⟨by rfl, fun w' hS => ?_⟩) hT2 ?_
  · go_simp
  try simp only [Act.put, List.setIfInBounds_toArray, List.set_cons_zero, List.set_cons_succ]
  refine wpAnyH_done (by kernel_rfl) ?_ _
  have hN2 := hnil.out.keeps hT2 (fun _ _ h => h)
  have T2 := Lib.hid hT2
  have N2 := Lib.hid hN2
  have hlt2 : w.heap.size < w2.heap.size := by have := hT2.size; simp at this; omega
  clear hT2 hN2 hb2 hDd hT0
  go_wp2
  have e0 : IntKind.i64.wrap ((l.length : Int) - 1) = (l.length : Int) - 1 := by rw [IntKind.wrap_i64]; omega
  go_loopw [6, 7] (fun s6 s7 wr => ∃ (r : Nat) (vo : Value), s6 = vo ∧ s7 = .int .i64 ((r : Int) - 1) ∧ r ≤ l.length ∧ Hid (SlOwn wr vo 55 4 (outR t l r).length (cellsE (outR t l r))) ∧ Hid (∀ g, blkOf vo = some g → w2.heap.size ≤ g) ∧ Hid (Keeps (fun _ => False) w2 wr)) (fun _ s7 _ => (intOf s7 + 1).toNat)
  case atStart => exact ⟨l.length, _, rfl, by first | rfl | rw [e0], Nat.le_refl _, by unfold outR; rw [List.drop_length]; exact N2, Lib.hid (fun g hg => by simp [blkOf] at hg), Lib.hid (Keeps.refl _ _)⟩
  case round =>
    obtain ⟨r, vo, rfl, rfl, hr, hO, hG, hK⟩ := hrel
    cases r with
    | zero =>
      obtain ⟨ao, co, rfl, _⟩ := hO.out.form
      have hfin := hO.out.slr
      have hXe : outR t l 0 = X := by rw [← HX.out]; unfold outR; rw [List.drop_zero]
      rw [hXe] at hfin
      have HF := Lib.hid hfin
      have HKF := Lib.hid (((Keeps.alloc (fun _ => False) _ _).trans T2.out).trans hK.out)
      have a5 : ¬ (0 : Int) ≤ ((0 : Nat) : Int) - 1 := by omega
      have HXL := Lib.hid (congrArg List.length hXe)
      clear hfin hXe
      go_wp2
      go_ret
      exact ⟨.slice ao X.length co, by rw [← HXL.out]; rfl, HF.out, HKF.out⟩
    | succ r =>
      rcases HCE.out with h0 | ⟨b, off, rfl, hbl, hc⟩
      · omega
      obtain ⟨e, he⟩ : ∃ e, l[r]? = some e := ⟨l[r], by simp⟩
      have hwk : Keeps (fun _ => False) (w.alloc (.cells ks.toArray 23)) wr := T2.out.trans hK.out
      obtain ⟨r0, r1, r2, r3⟩ := cellsE_at he
      have hcw : ∀ W, Keeps (fun _ => False) (w.alloc (.cells ks.toArray 23)) W → W.cell? ⟨b, off + r * 4, none⟩ = some (.int .u16 e.tag) ∧ W.cell? ⟨b, off + r * 4 + 1, none⟩ = some (.int .u32 e.at_) ∧ W.cell? ⟨b, off + r * 4 + 2, none⟩ = some (.int .u16 e.sec) ∧ W.cell? ⟨b, off + r * 4 + 3, none⟩ = some (.int .u64 e.turn) := fun W k =>
        ⟨(k.cell (p := ⟨b, off + r * 4, none⟩) hbl id).trans (hc _ _ r0), (k.cell (p := ⟨b, off + r * 4 + 1, none⟩) hbl id).trans (hc _ _ r1), (k.cell (p := ⟨b, off + r * 4 + 2, none⟩) hbl id).trans (hc _ _ r2), (k.cell (p := ⟨b, off + r * 4 + 3, none⟩) hbl id).trans (hc _ _ r3)⟩
      have HCW := Lib.hid hcw
      have HE := Lib.hid he
      have e1 : ((r + 1 : Nat) : Int) - 1 = (r : Int) := by omega
      have b1 : (0 : Int) ≤ r := by omega
      have b2 : (r : Int) < l.length := by omega
      have HWK := Lib.hid hwk
      clear hcw he r0 r1 r2 r3 hc hwk
      rw [e1]
      go_wp2
      have hT3 : Keeps (fun _ => False) (w.alloc (.cells ks.toArray 23)) wr.drew := HWK.out.trans (Keeps.drew _ _)
      refine wp_region_held_drew (S := fun w' => Keeps (fun _ => False) (w.alloc (.cells ks.toArray 23)) w') (by kernel_rfl) hT3 (fun _ => ?_)
      refine take_at 0 (some 24) (.slice (some ⟨b, off, none⟩) l.length cv') rfl rfl (by kernel_rfl) (by kernel_rfl) (by kernel_rfl) (fun _ _ _ h => h) (.inl ⟨by rfl, fun w' hS => ?_⟩) hT3 ?_
      · go_simp
      try simp only [Act.put, List.setIfInBounds_toArray, List.set_cons_zero, List.set_cons_succ]
      refine take_at 1 (some 25) (.int .i64 r) rfl rfl (by kernel_rfl) (by kernel_rfl) (by kernel_rfl) (fun _ _ _ h => h) (.inl ⟨by rfl, fun w' hS => ?_⟩) hT3 ?_
      · go_simp
      try simp only [Act.put, List.setIfInBounds_toArray, List.set_cons_zero, List.set_cons_succ]
      refine take_at 2 (some 26) (.pointer (some ⟨b, off + r * 4, none⟩)) rfl rfl (by kernel_rfl) (by kernel_rfl) (by kernel_rfl) (fun _ _ _ h => h) (.inl ⟨by rfl, fun w' hS => ?_⟩) hT3 ?_
      · go_simp
      try simp only [Act.put, List.setIfInBounds_toArray, List.set_cons_zero, List.set_cons_succ]
      refine take_at 3 (some 27) (.pointer (some ⟨b, off + r * 4, none⟩)) rfl rfl (by kernel_rfl) (by kernel_rfl) (by kernel_rfl) (fun _ _ _ h => h) (.inl ⟨by rfl, fun w' hS => ?_⟩) hT3 ?_
      · go_simp
      try simp only [Act.put, List.setIfInBounds_toArray, List.set_cons_zero, List.set_cons_succ]
      refine take_at 4 (some 28) (.int .u16 e.tag) rfl rfl (by kernel_rfl) (by kernel_rfl) (by kernel_rfl) (fun _ _ _ h => h) (.inl ⟨by rfl, fun w' hS => ?_⟩) hT3 ?_
      · have := (HCW.out w' hS).1
        go_simp
      try simp only [Act.put, List.setIfInBounds_toArray, List.set_cons_zero, List.set_cons_succ]
      refine take_at 5 (some 29) (.agg ks.toArray) rfl rfl (by kernel_rfl) (by kernel_rfl) (by kernel_rfl) (fun _ _ _ h => h) (.inl ⟨by rfl, fun w' hS => ?_⟩) hT3 ?_
      · exact run_load_blk (HK.out.keeps hS id) 23 _ Try.underlying23 rfl HS.out _ _ (.tmp 3) rfl rfl
      try simp only [Act.put, List.setIfInBounds_toArray, List.set_cons_zero, List.set_cons_succ]
      refine wpAnyH_all (rs := [6]) (by kernel_rfl) (by simp) ?_
      intro i6 hi6
      obtain rfl : i6 = 6 := by simpa using hi6
      refine call_atG (some 30) rfl rfl rfl 12 #[.agg ks.toArray] ?_ ?_
      · go_simp
      refine (Tag_ref hk _).mono ?_
      rintro ee w4 ⟨rfl, hb4⟩
      have hT4 : Keeps (fun _ => False) (w.alloc (.cells ks.toArray 23)) w4 := hT3.trans (Keeps.ofBelow hb4)
      refine ⟨_, rfl, hT4, ?_⟩
      try simp only [Act.put, List.setIfInBounds_toArray, List.set_cons_zero, List.set_cons_succ]
      cases hb : (e.tag == t) with
      | false =>
        have hbi : ((e.tag : Int) == (t : Int)) = false := by
          have := beq_eq_false_iff_ne.1 hb
          exact beq_eq_false_iff_ne.2 (by omega)
        refine take_at 7 (some 31) (.bool false) rfl rfl (by kernel_rfl) (by kernel_rfl) (by kernel_rfl) (fun _ _ _ h => h) (.inl ⟨by rfl, fun w' hS => ?_⟩) hT4 ?_
        · go_simp
        try simp only [Act.put, List.setIfInBounds_toArray, List.set_cons_zero, List.set_cons_succ]
        refine wpAnyH_done (by kernel_rfl) ?_ _
        have hst := outR_step t l r e HE.out
        rw [hb] at hst
        have hO4 := hO.out.keeps ((Keeps.drew (fun _ => False) wr).trans (Keeps.ofBelow hb4)) (fun _ _ h => h)
        have hst2 : outR t l r = outR t l (r + 1) := by rw [hst]; simp
        rw [← hst2] at hO4
        have hK4 : Keeps (fun _ => False) w2 w4 := hK.out.trans ((Keeps.drew _ _).trans (Keeps.ofBelow hb4))
        have O4 := Lib.hid hO4
        have K4 := Lib.hid hK4
        clear hO4 hK4 hst hst2 hT4 hT3 hb4
        go_wp2
        go_roundw
        case rel => exact ⟨r, _, rfl, by go_num, by omega, O4, hG, K4⟩
        case measure => simp [intOf]
      | true =>
        have hbi : ((e.tag : Int) == (t : Int)) = true := by
          have := beq_iff_eq.1 hb
          exact beq_iff_eq.2 (by omega)
        refine take_at 7 (some 31) (.bool true) rfl rfl (by kernel_rfl) (by kernel_rfl) (by kernel_rfl) (fun _ _ _ h => h) (.inl ⟨by rfl, fun w' hS => ?_⟩) hT4 ?_
        · go_simp
        try simp only [Act.put, List.setIfInBounds_toArray, List.set_cons_zero, List.set_cons_succ]
        refine wpAnyH_done (by kernel_rfl) ?_ _
        have hst := outR_step t l r e HE.out
        rw [hb] at hst
        have hst2 : outR t l r = outR t l (r + 1) ++ [e] := by rw [hst]; simp
        obtain ⟨ao, co, rfl, _⟩ := hO.out.form
        have hk4 : Keeps (fun _ => False) wr w4 := (Keeps.drew _ _).trans (Keeps.ofBelow hb4)
        have hkA : Keeps (fun _ => False) w4 (w4.alloc (.cells e.enc.toArray 55)) := Keeps.alloc _ _ _
        have hOA := (hO.out.keeps hk4 (fun _ _ h => h)).keeps hkA (fun _ _ h => h)
        have hlit : SlR (w4.alloc (.cells e.enc.toArray 55)) (.slice (some ⟨w4.heap.size, 0, none⟩) 1 1) 4 1 (cellsE [e]) := by
          have := (Blk.new w4 e.enc 55).slr 0 4 1 1 (by simp [En.enc])
          rw [cellsE_one]; exact this
        have hol := outR_le t l (r + 1)
        obtain ⟨v', w6, hrun, hown, hk6, hbk⟩ := run_appendOwn (P := Try.prog) 45 45 45 55 i0 _ 4 24 Try.underlying45 Try.underlying45 HI0.out HZ0.out HS0.out HB0.out rfl hOA hlit (cellsE_one_cell [e]) (by unfold maxLen; omega) (by omega)
        have hs24 : w2.heap.size ≤ w4.heap.size := Nat.le_trans hK.out.size hk4.size
        have hK6 : Keeps (fun _ => False) w2 w6 := ((hK.out.trans hk4).trans hkA).transNew hk6 (fun k h1 h2 => by have := hG.out k h2; omega)
        have hG6 : ∀ g, blkOf v' = some g → w2.heap.size ≤ g := by
          intro g hg
          rcases hbk with hh | ⟨hh, _⟩
          · rw [hh] at hg; exact hG.out g hg
          · rw [hh] at hg; rw [← Option.some.inj hg]; exact Nat.le_trans hs24 hkA.size
        have hO6 : SlOwn w6 v' 55 4 (outR t l r).length (cellsE (outR t l r)) := by
          rw [hst2, cellsE_append, List.length_append, List.length_singleton]; exact hown
        have O6 := Lib.hid hO6
        have G6 := Lib.hid hG6
        have K6 := Lib.hid hK6
        have HR := Lib.hid hrun
        obtain ⟨x0, x1, x2, x3⟩ := HCW.out w4 hT4
        clear hO6 hG6 hK6 hrun hown hbk hk6 hlit hOA hkA hk4 hst hst2 hT4 hT3 hb4 hol
        go_wp2_with (first | (refine wpList_buildEntry rfl (.tmp 36) rfl e rfl ?_) | (refine wpList_runAppend rfl (.tmp 32) (.tmp 37) 45 45 rfl v' w6 (by exact HR.out) ?_))
        go_roundw
        case rel => exact ⟨r, _, rfl, by go_num, by omega, O6, G6, K6⟩
        case measure => simp [intOf]
end Go.Proofs.Ythekkddmbomimaa
