/- The contract of the document's Insert. Conditions: the receiver is a document's directory in memory; the key reads as bytes; F holds every block yet to be made. -/
import Derived.Test.YthekkddmbomimaaRefPut
namespace Go.Proofs.Ythekkddmbomimaa
open Go.RowKit
set_option maxRecDepth 100000
attribute [local go_sem] Oper.semAt_some

set_option maxHeartbeats 400000 in
theorem InsR_form {F : Nat → Prop} {w : World} {q ql s : Nat} {L : List (List En)} (h : RefAt F w q ql s L) {ks : List Value} (at_ sec turn : Nat)
    (hf : sec = 0 ∨ 9223372036854775808 ≤ turn) :
    Calls Try.prog 21 #[.pointer (some ⟨q, 0, none⟩), .agg ks.toArray, .int .u32 at_, .int .u16 sec, .int .u64 turn] w fun e w' => e = .returned (.int .i64 40) ∧ RefAt F w' q ql s L ∧ Keeps F w w' := by
  have HD := Lib.hid h
  clear h
  by_cases h0 : sec = 0
  · subst h0
    go_enter Try.func21, Try.ntmps21
    go_wp2
    go_ret
    exact ⟨rfl, HD.out.below (Below.alloc1 _ _), Keeps.alloc _ _ _⟩
  · have b0 : ((sec : Int) == 0) = false := beq_eq_false_iff_ne.2 (by omega)
    have b1 : (9223372036854775807 : Int) < (turn : Int) := by omega
    clear hf h0
    go_enter Try.func21, Try.ntmps21
    go_wp2
    go_ret
    exact ⟨rfl, HD.out.below (Below.alloc1 _ _), Keeps.alloc _ _ _⟩

set_option maxHeartbeats 400000 in
theorem InsR_full {F : Nat → Prop} {w : World} {q ql s : Nat} {L : List (List En)} (h : RefAt F w q ql s L) {ks : List Value} {n t : Nat} (hk : IsKey ks n t) (at_ sec turn : Nat)
    (hf : ¬ (sec = 0 ∨ 9223372036854775808 ≤ turn)) (i : Nat) (hi : n % L.length = i) (l : List En) (hl : L[i]? = some l) (hle : s ≤ l.length) :
    Calls Try.prog 21 #[.pointer (some ⟨q, 0, none⟩), .agg ks.toArray, .int .u32 at_, .int .u16 sec, .int .u64 turn] w fun e w' => e = .returned (.int .i64 50) ∧ RefAt F w' q ql s L ∧ Keeps F w w' := by
  have hks : Blk (w.alloc (.cells ks.toArray 23)) w.heap.size ks 23 := Blk.new w ks 23
  have b0 : ((sec : Int) == 0) = false := beq_eq_false_iff_ne.2 (by omega)
  have b1 : decide ((9223372036854775807 : Int) < (turn : Int)) = false := by simp; omega
  have hD1 : RefAt F (w.alloc (.cells ks.toArray 23)) q ql s L := h.below (Below.alloc1 _ _)
  have hcall := Bucket_ref hk (w.alloc (.cells ks.toArray 23)) q L.length L.length _ hD1.lts.1 h.b1 h.b4 (hD1.head.cell rfl)
  rw [hi] at hcall
  have a1 : (0 : Int) ≤ i := by omega
  have a2 : (i : Int) < L.length := by have := (List.getElem?_eq_some_iff.1 hl).1; omega
  have b2 : (s : Int) ≤ (l.length : Int) := by omega
  have HC := Lib.hid hcall
  have HK := Lib.hid hks
  have HS := Lib.hid (size23k hk)
  have HL := Lib.hid hl
  clear hf hcall hks hi hl hle h
  go_enter Try.func21, Try.ntmps21
  go_wp2_with (first | (refine wpList_load_row rfl 23 _ rfl w.heap.size rfl 23 ks.toArray (0, 0) _ HK.out Try.underlying23 rfl HS.out ?_))
  refine HC.out.mono ?_
  rintro e w1 ⟨rfl, hb1⟩
  have hD2 : RefAt F w1 q ql s L := hD1.below hb1
  obtain ⟨v, cv, hv, _⟩ := hD2.slot i l HL.out
  obtain ⟨av, cv', rfl, _⟩ := hv.form
  have c0 := hD2.head.cell (j := 0) rfl
  have c1 := hD2.head.cell (j := 1) rfl
  have H2 := Lib.hid hD2
  have HB := Lib.hid hb1
  clear hD2 hb1 hD1 hv
  go_wp2
  go_quiet (fail)
  go_wp2
  go_ret
  exact ⟨rfl, H2.out.keeps (Keeps.drewN (fun _ => False) _ _) (fun _ _ h => h), ((Keeps.alloc _ _ _).trans (Keeps.ofBelow HB.out)).trans (Keeps.drewN _ _ _)⟩
theorem skip_at {P : Program} {ops : Array Oper} {Q : Exit → Act → World → Prop} {i : Nat} {o : Oper} {K : Act → World → Prop} {a : Act} {w w' : World} (ho : ops[i]? = some o) (hg : Region.wanted o (yielded ops a.tmps) = true)
    (hrun : (execOp a.eval o).run P w = .ok .skip w') (h : K (a.put o.dst undef) w') : wpOp P ops Q i K a w := by
  unfold wpOp
  rw [ho]
  simp only [hg, if_true]
  refine .inl ?_
  unfold Oper.wp
  rw [hrun]
  exact h
theorem run_appendOp {P : Program} {w w' : World} {ρ : Operand → Value} {o : Oper} (x y : Operand) (t u : TypeId) (ho : o.op = .call { callee := .builtin .append, args := #[x, y], argTypes := #[t, u] }) (v : Value)
    (hrun : (Builtin.append_ #[t, u] o.type #[ρ x, ρ y]).run P w = .ok v w') : (execOp ρ o).run P w = .ok (.value v) w' := by
  simp [execOp, ho, resolve, invoke, builtin, hrun, Result.andThen]
theorem run_buildEntry {w : World} {ρ : Operand → Value} {o : Oper} (x : Operand) (ho : o.op = .buildSlice 45 1 #[(0, x)]) (e : En) (hx : ρ x = .agg e.enc.toArray) :
    (execOp ρ o).run Try.prog w = .ok (.value (.slice (some ⟨w.heap.size, 0, none⟩) 1 1)) (w.alloc (.cells e.enc.toArray 55)) := by
  obtain ⟨i0, hi0, hz0, hs0, hb0⟩ := info_parts info55
  unfold execOp
  simp only [ho, Sem.run_bind]
  rw [run_buildSlice w 45 55 1 _ e.enc.toArray i0 _ Try.underlying45 hi0 hz0 (by rw [hs0]; omega) (by rw [hs0]; omega) (by
    simp [hs0, hx, Instr.fill, En.enc, Value.cells]
    rw [show Array.range 4 = #[0, 1, 2, 3] from by decide]
    simp)]
  rfl

set_option maxHeartbeats 2000000 in
theorem InsR_room {F : Nat → Prop} {w : World} {q ql s : Nat} {L : List (List En)} (h : RefAt F w q ql s L) (hF : ∀ k, w.heap.size ≤ k → F k) {ks : List Value} {n t : Nat} (hk : IsKey ks n t) (at_ sec turn : Nat) (h1 : at_ < 4294967296) (h2 : sec < 65536) (h3 : turn < 18446744073709551616)
    (hf : ¬ (sec = 0 ∨ 9223372036854775808 ≤ turn)) (i : Nat) (hi : n % L.length = i) (l : List En) (hl : L[i]? = some l) (hle : l.length < s) :
    Calls Try.prog 21 #[.pointer (some ⟨q, 0, none⟩), .agg ks.toArray, .int .u32 at_, .int .u16 sec, .int .u64 turn] w fun e w' => e = .returned (.int .i64 0) ∧ RefAt F w' q ql s (L.set i (l ++ [⟨t, at_, sec, turn⟩])) ∧ Keeps F w w' := by
  have hks : Blk (w.alloc (.cells ks.toArray 23)) w.heap.size ks 23 := Blk.new w ks 23
  have b0 : ((sec : Int) == 0) = false := beq_eq_false_iff_ne.2 (by omega)
  have b1 : decide ((9223372036854775807 : Int) < (turn : Int)) = false := by simp; omega
  have hD1 : RefAt F (w.alloc (.cells ks.toArray 23)) q ql s L := h.below (Below.alloc1 _ _)
  have hcall := Bucket_ref hk (w.alloc (.cells ks.toArray 23)) q L.length L.length _ hD1.lts.1 h.b1 h.b4 (hD1.head.cell rfl)
  rw [hi] at hcall
  have a1 : (0 : Int) ≤ i := by omega
  have a2 : (i : Int) < L.length := by have := (List.getElem?_eq_some_iff.1 hl).1; omega
  have b2 : ¬ (s : Int) ≤ (l.length : Int) := by omega
  have hs16 := h.s16
  have hok : ∀ x ∈ l ++ [(⟨t, at_, sec, turn⟩ : En)], x.ok := by
    intro x hx
    rcases List.mem_append.1 hx with hx | hx
    · exact h.ok l (List.mem_of_getElem? hl) x hx
    · obtain rfl : x = ⟨t, at_, sec, turn⟩ := by simpa using hx
      exact ⟨by have := hk.tag; show t < 65536; omega, h1, h2, h3⟩
  obtain ⟨v, cv0, hv0, hvF⟩ := h.slot i l hl
  obtain ⟨av, cv', rfl, _⟩ := hv0.form
  have hvlt : ∀ g, blkOf (.slice av l.length cv') = some g → g < w.heap.size := fun g hg => hv0.lt hg
  have hq := h.lts.1
  have hql := h.lts.2
  have hqne := h.ne
  have HVL := Lib.hid hvlt
  have HVF := Lib.hid hvF
  have HV0 := Lib.hid hv0
  have HCV0 := Lib.hid cv0
  clear hvlt hvF hv0 cv0
  have HO := Lib.hid hok
  have HC := Lib.hid hcall
  have HK := Lib.hid hks
  have HS := Lib.hid (size23k hk)
  have HL := Lib.hid hl
  have HF := Lib.hid hF
  obtain ⟨i0, hi0, hz0, hs0, hb0⟩ := info_parts info55
  have HI0 := Lib.hid hi0
  have HZ0 := Lib.hid hz0
  have HS0 := Lib.hid hs0
  have HB0 := Lib.hid hb0
  clear hf hcall hks hi hl h hok hF hi0 hz0 hs0 hb0 h1 h2 h3
  go_enter Try.func21, Try.ntmps21
  go_wp2_with (first | (refine wpList_load_row rfl 23 _ rfl w.heap.size rfl 23 ks.toArray (0, 0) _ HK.out Try.underlying23 rfl HS.out ?_))
  refine HC.out.mono ?_
  rintro e w1 ⟨rfl, hb1⟩
  have hD2 : RefAt F w1 q ql s L := hD1.below hb1
  have hk1 : Blk w1 w.heap.size ks 23 := HK.out.below' hb1
  have hkw1 : Keeps (fun _ => False) w w1 := (Keeps.alloc _ _ _).trans (Keeps.ofBelow hb1)
  have cv := (hkw1.cell (p := ⟨ql, i, none⟩) hql id).trans HCV0.out
  have hv := HV0.out.keeps hkw1 (fun _ _ h => h)
  have c0 := hD2.head.cell (j := 0) rfl
  have c1 := hD2.head.cell (j := 1) rfl
  have H2 := Lib.hid hD2
  have HB := Lib.hid hb1
  have HV := Lib.hid hv
  have HKW1 := Lib.hid hkw1
  have HK1 := Lib.hid hk1
  clear hD2 hb1 hD1 hv hk1 hkw1
  go_wp2
  go_quiet (fail)
  go_wp2
  have hw2 : Keeps (fun _ => False) w1 (w1.drewN nq).drew := (Keeps.drewN _ _ _).trans (Keeps.drew _ _)
  have hR2 := H2.out.keeps hw2 (fun _ _ h => h)
  have hk2 : Blk (w1.drewN nq).drew w.heap.size ks 23 := HK1.out.keeps hw2 id
  have hkw2 := HKW1.out.trans hw2
  have hv2 := HV.out.keeps hw2 (fun _ _ h => h)
  have cv2 : (w1.drewN nq).drew.cell? ⟨ql, i, none⟩ = some (.slice av l.length cv') := cv
  have hS2 : Blk (w1.drewN nq).drew q [.slice (some ⟨ql, 0, none⟩) L.length L.length, .int .i64 s] 72 ∧ Blk (w1.drewN nq).drew w.heap.size ks 23 := ⟨hR2.head, hk2⟩
  refine wp_region_held_drew (S := fun w' => Blk w' q [.slice (some ⟨ql, 0, none⟩) L.length L.length, .int .i64 s] 72 ∧ Blk w' w.heap.size ks 23) (by kernel_rfl) hS2 (fun _ => ?_)
  generalize (w1.drewN nq).drew = w2 at *
  refine take_at 0 (some 34) (.pointer (some ⟨q, 0, none⟩)) rfl rfl (by kernel_rfl) (by kernel_rfl) (by kernel_rfl) (fun _ _ _ h => h) (.inl ⟨by rfl, fun w' hS => ?_⟩) hS2 ?_
  · go_simp
  try simp only [Act.put, List.setIfInBounds_toArray, List.set_cons_zero, List.set_cons_succ]
  refine take_at 1 (some 35) (.pointer (some ⟨q, 0, none⟩)) rfl rfl (by kernel_rfl) (by kernel_rfl) (by kernel_rfl) (fun _ _ _ h => h) (.inl ⟨by rfl, fun w' hS => ?_⟩) hS2 ?_
  · go_simp
  try simp only [Act.put, List.setIfInBounds_toArray, List.set_cons_zero, List.set_cons_succ]
  refine take_at 2 (some 36) (.pointer (some ⟨q, 0, none⟩)) rfl rfl (by kernel_rfl) (by kernel_rfl) (by kernel_rfl) (fun _ _ _ h => h) (.inl ⟨by rfl, fun w' hS => ?_⟩) hS2 ?_
  · go_simp
  try simp only [Act.put, List.setIfInBounds_toArray, List.set_cons_zero, List.set_cons_succ]
  refine take_at 3 (some 37) (.slice (some ⟨ql, 0, none⟩) L.length L.length) rfl rfl (by kernel_rfl) (by kernel_rfl) (by kernel_rfl) (fun _ _ _ h => h) (.inl ⟨by rfl, fun w' hS => ?_⟩) hS2 ?_
  · have := hS.1.cell (j := 0) rfl
    go_simp
  try simp only [Act.put, List.setIfInBounds_toArray, List.set_cons_zero, List.set_cons_succ]
  refine take_at 4 (some 38) (.int .i64 i) rfl rfl (by kernel_rfl) (by kernel_rfl) (by kernel_rfl) (fun _ _ _ h => h) (.inl ⟨by rfl, fun w' hS => ?_⟩) hS2 ?_
  · go_simp
  try simp only [Act.put, List.setIfInBounds_toArray, List.set_cons_zero, List.set_cons_succ]
  refine take_at 5 (some 39) (.pointer (some ⟨q, 0, none⟩)) rfl rfl (by kernel_rfl) (by kernel_rfl) (by kernel_rfl) (fun _ _ _ h => h) (.inl ⟨by rfl, fun w' hS => ?_⟩) hS2 ?_
  · go_simp
  try simp only [Act.put, List.setIfInBounds_toArray, List.set_cons_zero, List.set_cons_succ]
  refine take_at 6 (some 40) (.pointer (some ⟨q, 0, none⟩)) rfl rfl (by kernel_rfl) (by kernel_rfl) (by kernel_rfl) (fun _ _ _ h => h) (.inl ⟨by rfl, fun w' hS => ?_⟩) hS2 ?_
  · go_simp
  try simp only [Act.put, List.setIfInBounds_toArray, List.set_cons_zero, List.set_cons_succ]
  refine take_at 7 (some 41) (.pointer (some ⟨q, 0, none⟩)) rfl rfl (by kernel_rfl) (by kernel_rfl) (by kernel_rfl) (fun _ _ _ h => h) (.inl ⟨by rfl, fun w' hS => ?_⟩) hS2 ?_
  · go_simp
  try simp only [Act.put, List.setIfInBounds_toArray, List.set_cons_zero, List.set_cons_succ]
  refine take_at 8 (some 42) (.slice (some ⟨ql, 0, none⟩) L.length L.length) rfl rfl (by kernel_rfl) (by kernel_rfl) (by kernel_rfl) (fun _ _ _ h => h) (.inl ⟨by rfl, fun w' hS => ?_⟩) hS2 ?_
  · have := hS.1.cell (j := 0) rfl
    go_simp
  try simp only [Act.put, List.setIfInBounds_toArray, List.set_cons_zero, List.set_cons_succ]
  refine take_at 9 (some 43) (.int .i64 i) rfl rfl (by kernel_rfl) (by kernel_rfl) (by kernel_rfl) (fun _ _ _ h => h) (.inl ⟨by rfl, fun w' hS => ?_⟩) hS2 ?_
  · go_simp
  try simp only [Act.put, List.setIfInBounds_toArray, List.set_cons_zero, List.set_cons_succ]
  refine take_at 10 (some 44) (.pointer (some ⟨ql, i, none⟩)) rfl rfl (by kernel_rfl) (by kernel_rfl) (by kernel_rfl) (fun _ _ _ h => h) (.inl ⟨by rfl, fun w' hS => ?_⟩) hS2 ?_
  · go_simp
  try simp only [Act.put, List.setIfInBounds_toArray, List.set_cons_zero, List.set_cons_succ]
  refine take_at 12 (some 46) (.agg ks.toArray) rfl rfl (by kernel_rfl) (by kernel_rfl) (by kernel_rfl) (fun _ _ _ h => h) (.inl ⟨by rfl, fun w' hS => ?_⟩) hS2 ?_
  · exact run_load_blk hS.2 23 _ Try.underlying23 rfl HS.out _ _ (.tmp 6) rfl rfl
  try simp only [Act.put, List.setIfInBounds_toArray, List.set_cons_zero, List.set_cons_succ]
  refine take_at 14 (some 48) (.int .u32 at_) rfl rfl (by kernel_rfl) (by kernel_rfl) (by kernel_rfl) (fun _ _ _ h => h) (.inl ⟨by rfl, fun w' hS => ?_⟩) hS2 ?_
  · go_simp
  try simp only [Act.put, List.setIfInBounds_toArray, List.set_cons_zero, List.set_cons_succ]
  refine take_at 15 (some 49) (.int .u16 sec) rfl rfl (by kernel_rfl) (by kernel_rfl) (by kernel_rfl) (fun _ _ _ h => h) (.inl ⟨by rfl, fun w' hS => ?_⟩) hS2 ?_
  · go_simp
  try simp only [Act.put, List.setIfInBounds_toArray, List.set_cons_zero, List.set_cons_succ]
  refine take_at 16 (some 50) (.int .u64 turn) rfl rfl (by kernel_rfl) (by kernel_rfl) (by kernel_rfl) (fun _ _ _ h => h) (.inl ⟨by rfl, fun w' hS => ?_⟩) hS2 ?_
  · go_simp
  try simp only [Act.put, List.setIfInBounds_toArray, List.set_cons_zero, List.set_cons_succ]
  refine wpAnyH_all (rs := [11, 13]) (by kernel_rfl) (by simp) ?_
  intro ii hii
  have hor : ii = 11 ∨ ii = 13 := by simpa using hii
  rcases hor with rfl | rfl
  · refine run_at (w' := w2) (some 45) (.slice av l.length cv') rfl rfl rfl (by have := cv2; go_simp) ?_
    refine ⟨hS2, ?_⟩
    try simp only [Act.put, List.setIfInBounds_toArray, List.set_cons_zero, List.set_cons_succ]
    refine wpAnyH_all (rs := [13]) (by kernel_rfl) (by simp) ?_
    intro i13 hi13
    obtain rfl : i13 = 13 := by simpa using hi13
    refine call_atG (some 47) rfl rfl rfl 12 #[.agg ks.toArray] ?_ ?_
    · go_simp
    refine (Tag_ref hk w2).mono ?_
    rintro e w4 ⟨rfl, hb4⟩
    have hS4 : Blk w4 q [.slice (some ⟨ql, 0, none⟩) L.length L.length, .int .i64 s] 72 ∧ Blk w4 w.heap.size ks 23 := ⟨hS2.1.below' hb4, hS2.2.below' hb4⟩
    have hk24 : Keeps (fun _ => False) w2 w4 := Keeps.ofBelow hb4
    have hqls2 : ql < w2.heap.size := hR2.lts.2
    have cv4 := (hk24.cell (p := ⟨ql, i, none⟩) hqls2 id).trans cv2
    have hv4 := hv2.keeps hk24 (fun _ _ h => h)
    refine ⟨_, rfl, hS4, ?_⟩
    try simp only [Act.put, List.setIfInBounds_toArray, List.set_cons_zero, List.set_cons_succ]
    refine take_at 17 (some 51) (.agg #[.int .u16 t, .int .u32 at_, .int .u16 sec, .int .u64 turn]) rfl rfl (by kernel_rfl) (by kernel_rfl) (by kernel_rfl) (fun _ _ _ h => h) (.inl ⟨by rfl, fun w' hS => ?_⟩) hS4 ?_
    · go_simp
    try simp only [Act.put, List.setIfInBounds_toArray, List.set_cons_zero, List.set_cons_succ]
    refine wpAnyH_all (rs := [18]) (by kernel_rfl) (by simp) ?_
    intro i18 hi18
    obtain rfl : i18 = 18 := by simpa using hi18
    refine run_at (some 52) (.slice (some ⟨w4.heap.size, 0, none⟩) 1 1) rfl rfl rfl (run_buildEntry (.tmp 51) rfl ⟨t, at_, sec, turn⟩ rfl) ?_
    have hS5 : Blk (w4.alloc (.cells (En.enc ⟨t, at_, sec, turn⟩).toArray 55)) q [.slice (some ⟨ql, 0, none⟩) L.length L.length, .int .i64 s] 72 ∧ Blk (w4.alloc (.cells (En.enc ⟨t, at_, sec, turn⟩).toArray 55)) w.heap.size ks 23 := ⟨hS4.1.alloc _, hS4.2.alloc _⟩
    have hk45 : Keeps (fun _ => False) w4 (w4.alloc (.cells (En.enc ⟨t, at_, sec, turn⟩).toArray 55)) := Keeps.alloc _ _ _
    have cv5 := (hk45.cell (p := ⟨ql, i, none⟩) (Nat.lt_of_lt_of_le hqls2 hk24.size) id).trans cv4
    have hv5 := hv4.keeps hk45 (fun _ _ h => h)
    refine ⟨hS5, ?_⟩
    try simp only [Act.put, List.setIfInBounds_toArray, List.set_cons_zero, List.set_cons_succ]
    refine wpAnyH_all (rs := [19]) (by kernel_rfl) (by simp) ?_
    intro i19 hi19
    obtain rfl : i19 = 19 := by simpa using hi19
    have hlit : SlR (w4.alloc (.cells (En.enc ⟨t, at_, sec, turn⟩).toArray 55)) (.slice (some ⟨w4.heap.size, 0, none⟩) 1 1) 4 1 (cellsE [⟨t, at_, sec, turn⟩]) := by
      have := (Blk.new w4 (En.enc ⟨t, at_, sec, turn⟩) 55).slr 0 4 1 1 (by simp [En.enc])
      rw [cellsE_one]; exact this
    obtain ⟨v', w6, hrun, hown, hk6, hbk⟩ := run_appendOwn (P := Try.prog) 45 45 45 55 i0 _ 4 24 Try.underlying45 Try.underlying45 HI0.out HZ0.out HS0.out HB0.out rfl hv5 hlit (cellsE_one_cell [⟨t, at_, sec, turn⟩]) (by unfold maxLen; omega) (by omega)
    refine run_at (some 53) v' rfl rfl rfl (run_appendOp (.tmp 45) (.tmp 52) 45 45 rfl v' hrun) ?_
    have hS6 : Blk w6 q [.slice (some ⟨ql, 0, none⟩) L.length L.length, .int .i64 s] 72 ∧ Blk w6 w.heap.size ks 23 := ⟨hS5.1.keeps hk6 (fun e => (HVF.out _ e).2.1 rfl), hS5.2.keeps hk6 (fun e => by have := HVL.out _ e; omega)⟩
    have hk26 : Keeps (fun b => blkOf (.slice av l.length cv') = some b) w2 w6 := ((hk24.trans hk45).mono (fun _ h => h.elim)).trans hk6
    have cv6 : w6.cell? ⟨ql, i, none⟩ = some (.slice av l.length cv') := (hk6.cell (p := ⟨ql, i, none⟩) (Nat.lt_of_lt_of_le (Nat.lt_of_lt_of_le hqls2 hk24.size) hk45.size) (fun e => (HVF.out _ e).2.2 rfl)).trans cv5
    have hw2s : w.heap.size ≤ w2.heap.size := hkw2.size
    have hput := hR2.put i l HL.out (.slice av l.length cv') cv2 hk26 v' (l ++ [⟨t, at_, sec, turn⟩]) (by rw [List.length_append, List.length_singleton, cellsE_append]; exact hown) (fun g hg => by
      rcases hbk with e | ⟨e, _⟩
      · rw [e] at hg; exact ⟨(HVF.out g hg).1, .inl hg⟩
      · rw [e] at hg
        have hge : w2.heap.size ≤ g := by rw [← Option.some.inj hg]; exact Nat.le_trans hk24.size hk45.size
        exact ⟨HF.out g (by omega), .inr hge⟩) HO.out (by rw [List.length_append, List.length_singleton]; omega)
    have f6 : w6.frozen? ⟨ql, i, none⟩ = false := by
      obtain ⟨vs, hvs, _⟩ := hR2.list
      exact (hvs.keeps hk26 (fun e => (HVF.out _ e).2.2 rfl)).frozen i
    have hkF : Keeps F w (w6.setCell ⟨ql, i, none⟩ v') := (hkw2.mono (fun _ h => h.elim)).trans hput.2
    refine ⟨hS6, ?_⟩
    try simp only [Act.put, List.setIfInBounds_toArray, List.set_cons_zero, List.set_cons_succ]
    refine take_at 20 (some 54) (.pointer (some ⟨ql, i, none⟩)) rfl rfl (by kernel_rfl) (by kernel_rfl) (by kernel_rfl) (fun _ _ _ h => h) (.inl ⟨by rfl, fun w' hS => ?_⟩) hS6 ?_
    · go_simp
    try simp only [Act.put, List.setIfInBounds_toArray, List.set_cons_zero, List.set_cons_succ]
    refine wpAnyH_all (rs := [21]) (by kernel_rfl) (by simp) ?_
    intro i21 hi21
    obtain rfl : i21 = 21 := by simpa using hi21
    obtain ⟨av', cv'', rfl, _⟩ := hown.form
    refine skip_at (w' := w6.setCell ⟨ql, i, none⟩ (.slice av' (l.length + 1) cv'')) rfl rfl (by go_simp) ?_
    have hS7 : Blk (w6.setCell ⟨ql, i, none⟩ (.slice av' (l.length + 1) cv'')) q [.slice (some ⟨ql, 0, none⟩) L.length L.length, .int .i64 s] 72 ∧ Blk (w6.setCell ⟨ql, i, none⟩ (.slice av' (l.length + 1) cv'')) w.heap.size ks 23 := ⟨hS6.1.setCellOther _ _ hqne, hS6.2.setCellOther _ _ (by show w.heap.size ≠ ql; omega)⟩
    refine ⟨hS7, ?_⟩
    refine wpAnyH_done (by kernel_rfl) ?_ _
    have HPUT := Lib.hid hput.1
    have HKF := Lib.hid hkF
    clear hput hkF hS7 hS6 hS5 hS4 hrun hown hk6 hbk hk26 cv6 cv5 cv4 hv5 hv4 f6 hk24 hk45 hlit hb4 hR2 hv2 cv2 hS2
    go_wp2
    go_ret
    exact ⟨rfl, HPUT.out, HKF.out⟩
  · refine call_atG (some 47) rfl rfl rfl 12 #[.agg ks.toArray] ?_ ?_
    · go_simp
    refine (Tag_ref hk w2).mono ?_
    rintro e w4 ⟨rfl, hb4⟩
    have hS4 : Blk w4 q [.slice (some ⟨ql, 0, none⟩) L.length L.length, .int .i64 s] 72 ∧ Blk w4 w.heap.size ks 23 := ⟨hS2.1.below' hb4, hS2.2.below' hb4⟩
    have hk24 : Keeps (fun _ => False) w2 w4 := Keeps.ofBelow hb4
    have hqls2 : ql < w2.heap.size := hR2.lts.2
    have cv4 := (hk24.cell (p := ⟨ql, i, none⟩) hqls2 id).trans cv2
    have hv4 := hv2.keeps hk24 (fun _ _ h => h)
    refine ⟨_, rfl, hS4, ?_⟩
    try simp only [Act.put, List.setIfInBounds_toArray, List.set_cons_zero, List.set_cons_succ]
    refine take_at 17 (some 51) (.agg #[.int .u16 t, .int .u32 at_, .int .u16 sec, .int .u64 turn]) rfl rfl (by kernel_rfl) (by kernel_rfl) (by kernel_rfl) (fun _ _ _ h => h) (.inl ⟨by rfl, fun w' hS => ?_⟩) hS4 ?_
    · go_simp
    try simp only [Act.put, List.setIfInBounds_toArray, List.set_cons_zero, List.set_cons_succ]
    refine wpAnyH_all (rs := [11, 18]) (by kernel_rfl) (by simp) ?_
    intro ii hii
    have hor : ii = 11 ∨ ii = 18 := by simpa using hii
    rcases hor with rfl | rfl
    · refine run_at (w' := w4) (some 45) (.slice av l.length cv') rfl rfl rfl (by have := cv4; go_simp) ?_
      refine ⟨hS4, ?_⟩
      try simp only [Act.put, List.setIfInBounds_toArray, List.set_cons_zero, List.set_cons_succ]
      refine wpAnyH_all (rs := [18]) (by kernel_rfl) (by simp) ?_
      intro i18 hi18
      obtain rfl : i18 = 18 := by simpa using hi18
      refine run_at (some 52) (.slice (some ⟨w4.heap.size, 0, none⟩) 1 1) rfl rfl rfl (run_buildEntry (.tmp 51) rfl ⟨t, at_, sec, turn⟩ rfl) ?_
      have hS5 : Blk (w4.alloc (.cells (En.enc ⟨t, at_, sec, turn⟩).toArray 55)) q [.slice (some ⟨ql, 0, none⟩) L.length L.length, .int .i64 s] 72 ∧ Blk (w4.alloc (.cells (En.enc ⟨t, at_, sec, turn⟩).toArray 55)) w.heap.size ks 23 := ⟨hS4.1.alloc _, hS4.2.alloc _⟩
      have hk45 : Keeps (fun _ => False) w4 (w4.alloc (.cells (En.enc ⟨t, at_, sec, turn⟩).toArray 55)) := Keeps.alloc _ _ _
      have cv5 := (hk45.cell (p := ⟨ql, i, none⟩) (Nat.lt_of_lt_of_le hqls2 hk24.size) id).trans cv4
      have hv5 := hv4.keeps hk45 (fun _ _ h => h)
      refine ⟨hS5, ?_⟩
      try simp only [Act.put, List.setIfInBounds_toArray, List.set_cons_zero, List.set_cons_succ]
      refine wpAnyH_all (rs := [19]) (by kernel_rfl) (by simp) ?_
      intro i19 hi19
      obtain rfl : i19 = 19 := by simpa using hi19
      have hlit : SlR (w4.alloc (.cells (En.enc ⟨t, at_, sec, turn⟩).toArray 55)) (.slice (some ⟨w4.heap.size, 0, none⟩) 1 1) 4 1 (cellsE [⟨t, at_, sec, turn⟩]) := by
        have := (Blk.new w4 (En.enc ⟨t, at_, sec, turn⟩) 55).slr 0 4 1 1 (by simp [En.enc])
        rw [cellsE_one]; exact this
      obtain ⟨v', w6, hrun, hown, hk6, hbk⟩ := run_appendOwn (P := Try.prog) 45 45 45 55 i0 _ 4 24 Try.underlying45 Try.underlying45 HI0.out HZ0.out HS0.out HB0.out rfl hv5 hlit (cellsE_one_cell [⟨t, at_, sec, turn⟩]) (by unfold maxLen; omega) (by omega)
      refine run_at (some 53) v' rfl rfl rfl (run_appendOp (.tmp 45) (.tmp 52) 45 45 rfl v' hrun) ?_
      have hS6 : Blk w6 q [.slice (some ⟨ql, 0, none⟩) L.length L.length, .int .i64 s] 72 ∧ Blk w6 w.heap.size ks 23 := ⟨hS5.1.keeps hk6 (fun e => (HVF.out _ e).2.1 rfl), hS5.2.keeps hk6 (fun e => by have := HVL.out _ e; omega)⟩
      have hk26 : Keeps (fun b => blkOf (.slice av l.length cv') = some b) w2 w6 := ((hk24.trans hk45).mono (fun _ h => h.elim)).trans hk6
      have cv6 : w6.cell? ⟨ql, i, none⟩ = some (.slice av l.length cv') := (hk6.cell (p := ⟨ql, i, none⟩) (Nat.lt_of_lt_of_le (Nat.lt_of_lt_of_le hqls2 hk24.size) hk45.size) (fun e => (HVF.out _ e).2.2 rfl)).trans cv5
      have hw2s : w.heap.size ≤ w2.heap.size := hkw2.size
      have hput := hR2.put i l HL.out (.slice av l.length cv') cv2 hk26 v' (l ++ [⟨t, at_, sec, turn⟩]) (by rw [List.length_append, List.length_singleton, cellsE_append]; exact hown) (fun g hg => by
        rcases hbk with e | ⟨e, _⟩
        · rw [e] at hg; exact ⟨(HVF.out g hg).1, .inl hg⟩
        · rw [e] at hg
          have hge : w2.heap.size ≤ g := by rw [← Option.some.inj hg]; exact Nat.le_trans hk24.size hk45.size
          exact ⟨HF.out g (by omega), .inr hge⟩) HO.out (by rw [List.length_append, List.length_singleton]; omega)
      have f6 : w6.frozen? ⟨ql, i, none⟩ = false := by
        obtain ⟨vs, hvs, _⟩ := hR2.list
        exact (hvs.keeps hk26 (fun e => (HVF.out _ e).2.2 rfl)).frozen i
      have hkF : Keeps F w (w6.setCell ⟨ql, i, none⟩ v') := (hkw2.mono (fun _ h => h.elim)).trans hput.2
      refine ⟨hS6, ?_⟩
      try simp only [Act.put, List.setIfInBounds_toArray, List.set_cons_zero, List.set_cons_succ]
      refine take_at 20 (some 54) (.pointer (some ⟨ql, i, none⟩)) rfl rfl (by kernel_rfl) (by kernel_rfl) (by kernel_rfl) (fun _ _ _ h => h) (.inl ⟨by rfl, fun w' hS => ?_⟩) hS6 ?_
      · go_simp
      try simp only [Act.put, List.setIfInBounds_toArray, List.set_cons_zero, List.set_cons_succ]
      refine wpAnyH_all (rs := [21]) (by kernel_rfl) (by simp) ?_
      intro i21 hi21
      obtain rfl : i21 = 21 := by simpa using hi21
      obtain ⟨av', cv'', rfl, _⟩ := hown.form
      refine skip_at (w' := w6.setCell ⟨ql, i, none⟩ (.slice av' (l.length + 1) cv'')) rfl rfl (by go_simp) ?_
      have hS7 : Blk (w6.setCell ⟨ql, i, none⟩ (.slice av' (l.length + 1) cv'')) q [.slice (some ⟨ql, 0, none⟩) L.length L.length, .int .i64 s] 72 ∧ Blk (w6.setCell ⟨ql, i, none⟩ (.slice av' (l.length + 1) cv'')) w.heap.size ks 23 := ⟨hS6.1.setCellOther _ _ hqne, hS6.2.setCellOther _ _ (by show w.heap.size ≠ ql; omega)⟩
      refine ⟨hS7, ?_⟩
      refine wpAnyH_done (by kernel_rfl) ?_ _
      have HPUT := Lib.hid hput.1
      have HKF := Lib.hid hkF
      clear hput hkF hS7 hS6 hS5 hS4 hrun hown hk6 hbk hk26 cv6 cv5 cv4 hv5 hv4 f6 hk24 hk45 hlit hb4 hR2 hv2 cv2 hS2
      go_wp2
      go_ret
      exact ⟨rfl, HPUT.out, HKF.out⟩
    · refine run_at (some 52) (.slice (some ⟨w4.heap.size, 0, none⟩) 1 1) rfl rfl rfl (run_buildEntry (.tmp 51) rfl ⟨t, at_, sec, turn⟩ rfl) ?_
      have hS5 : Blk (w4.alloc (.cells (En.enc ⟨t, at_, sec, turn⟩).toArray 55)) q [.slice (some ⟨ql, 0, none⟩) L.length L.length, .int .i64 s] 72 ∧ Blk (w4.alloc (.cells (En.enc ⟨t, at_, sec, turn⟩).toArray 55)) w.heap.size ks 23 := ⟨hS4.1.alloc _, hS4.2.alloc _⟩
      have hk45 : Keeps (fun _ => False) w4 (w4.alloc (.cells (En.enc ⟨t, at_, sec, turn⟩).toArray 55)) := Keeps.alloc _ _ _
      have cv5 := (hk45.cell (p := ⟨ql, i, none⟩) (Nat.lt_of_lt_of_le hqls2 hk24.size) id).trans cv4
      have hv5 := hv4.keeps hk45 (fun _ _ h => h)
      refine ⟨hS5, ?_⟩
      try simp only [Act.put, List.setIfInBounds_toArray, List.set_cons_zero, List.set_cons_succ]
      refine wpAnyH_all (rs := [11]) (by kernel_rfl) (by simp) ?_
      intro i11 hi11
      obtain rfl : i11 = 11 := by simpa using hi11
      refine run_at (w' := w4.alloc (.cells (En.enc ⟨t, at_, sec, turn⟩).toArray 55)) (some 45) (.slice av l.length cv') rfl rfl rfl (by have := cv5; go_simp) ?_
      refine ⟨hS5, ?_⟩
      try simp only [Act.put, List.setIfInBounds_toArray, List.set_cons_zero, List.set_cons_succ]
      refine wpAnyH_all (rs := [19]) (by kernel_rfl) (by simp) ?_
      intro i19 hi19
      obtain rfl : i19 = 19 := by simpa using hi19
      have hlit : SlR (w4.alloc (.cells (En.enc ⟨t, at_, sec, turn⟩).toArray 55)) (.slice (some ⟨w4.heap.size, 0, none⟩) 1 1) 4 1 (cellsE [⟨t, at_, sec, turn⟩]) := by
        have := (Blk.new w4 (En.enc ⟨t, at_, sec, turn⟩) 55).slr 0 4 1 1 (by simp [En.enc])
        rw [cellsE_one]; exact this
      obtain ⟨v', w6, hrun, hown, hk6, hbk⟩ := run_appendOwn (P := Try.prog) 45 45 45 55 i0 _ 4 24 Try.underlying45 Try.underlying45 HI0.out HZ0.out HS0.out HB0.out rfl hv5 hlit (cellsE_one_cell [⟨t, at_, sec, turn⟩]) (by unfold maxLen; omega) (by omega)
      refine run_at (some 53) v' rfl rfl rfl (run_appendOp (.tmp 45) (.tmp 52) 45 45 rfl v' hrun) ?_
      have hS6 : Blk w6 q [.slice (some ⟨ql, 0, none⟩) L.length L.length, .int .i64 s] 72 ∧ Blk w6 w.heap.size ks 23 := ⟨hS5.1.keeps hk6 (fun e => (HVF.out _ e).2.1 rfl), hS5.2.keeps hk6 (fun e => by have := HVL.out _ e; omega)⟩
      have hk26 : Keeps (fun b => blkOf (.slice av l.length cv') = some b) w2 w6 := ((hk24.trans hk45).mono (fun _ h => h.elim)).trans hk6
      have cv6 : w6.cell? ⟨ql, i, none⟩ = some (.slice av l.length cv') := (hk6.cell (p := ⟨ql, i, none⟩) (Nat.lt_of_lt_of_le (Nat.lt_of_lt_of_le hqls2 hk24.size) hk45.size) (fun e => (HVF.out _ e).2.2 rfl)).trans cv5
      have hw2s : w.heap.size ≤ w2.heap.size := hkw2.size
      have hput := hR2.put i l HL.out (.slice av l.length cv') cv2 hk26 v' (l ++ [⟨t, at_, sec, turn⟩]) (by rw [List.length_append, List.length_singleton, cellsE_append]; exact hown) (fun g hg => by
        rcases hbk with e | ⟨e, _⟩
        · rw [e] at hg; exact ⟨(HVF.out g hg).1, .inl hg⟩
        · rw [e] at hg
          have hge : w2.heap.size ≤ g := by rw [← Option.some.inj hg]; exact Nat.le_trans hk24.size hk45.size
          exact ⟨HF.out g (by omega), .inr hge⟩) HO.out (by rw [List.length_append, List.length_singleton]; omega)
      have f6 : w6.frozen? ⟨ql, i, none⟩ = false := by
        obtain ⟨vs, hvs, _⟩ := hR2.list
        exact (hvs.keeps hk26 (fun e => (HVF.out _ e).2.2 rfl)).frozen i
      have hkF : Keeps F w (w6.setCell ⟨ql, i, none⟩ v') := (hkw2.mono (fun _ h => h.elim)).trans hput.2
      refine ⟨hS6, ?_⟩
      try simp only [Act.put, List.setIfInBounds_toArray, List.set_cons_zero, List.set_cons_succ]
      refine take_at 20 (some 54) (.pointer (some ⟨ql, i, none⟩)) rfl rfl (by kernel_rfl) (by kernel_rfl) (by kernel_rfl) (fun _ _ _ h => h) (.inl ⟨by rfl, fun w' hS => ?_⟩) hS6 ?_
      · go_simp
      try simp only [Act.put, List.setIfInBounds_toArray, List.set_cons_zero, List.set_cons_succ]
      refine wpAnyH_all (rs := [21]) (by kernel_rfl) (by simp) ?_
      intro i21 hi21
      obtain rfl : i21 = 21 := by simpa using hi21
      obtain ⟨av', cv'', rfl, _⟩ := hown.form
      refine skip_at (w' := w6.setCell ⟨ql, i, none⟩ (.slice av' (l.length + 1) cv'')) rfl rfl (by go_simp) ?_
      have hS7 : Blk (w6.setCell ⟨ql, i, none⟩ (.slice av' (l.length + 1) cv'')) q [.slice (some ⟨ql, 0, none⟩) L.length L.length, .int .i64 s] 72 ∧ Blk (w6.setCell ⟨ql, i, none⟩ (.slice av' (l.length + 1) cv'')) w.heap.size ks 23 := ⟨hS6.1.setCellOther _ _ hqne, hS6.2.setCellOther _ _ (by show w.heap.size ≠ ql; omega)⟩
      refine ⟨hS7, ?_⟩
      refine wpAnyH_done (by kernel_rfl) ?_ _
      have HPUT := Lib.hid hput.1
      have HKF := Lib.hid hkF
      clear hput hkF hS7 hS6 hS5 hS4 hrun hown hk6 hbk hk26 cv6 cv5 cv4 hv5 hv4 f6 hk24 hk45 hlit hb4 hR2 hv2 cv2 hS2
      go_wp2
      go_ret
      exact ⟨rfl, HPUT.out, HKF.out⟩

/-- The document's Insert. -/
theorem Insert_ref {F : Nat → Prop} {w : World} {q ql s : Nat} {L : List (List En)} (h : RefAt F w q ql s L) (hF : ∀ k, w.heap.size ≤ k → F k) {ks : List Value} {n t : Nat} (hk : IsKey ks n t) (at_ sec turn : Nat) (h1 : at_ < 4294967296) (h2 : sec < 65536) (h3 : turn < 18446744073709551616) :
    Calls Try.prog 21 #[.pointer (some ⟨q, 0, none⟩), .agg ks.toArray, .int .u32 at_, .int .u16 sec, .int .u64 turn] w fun e w' =>
      e = .returned (.int .i64 (mIns s L (n % L.length) t at_ sec turn).1) ∧ RefAt F w' q ql s (mIns s L (n % L.length) t at_ sec turn).2 ∧ Keeps F w w' := by
  have hi : n % L.length < L.length := Nat.mod_lt _ (by have := h.b1; omega)
  have hl : L[n % L.length]? = some L[n % L.length] := by simp [hi]
  have hd : L.getD (n % L.length) [] = L[n % L.length] := by simp [hi]
  unfold mIns
  split
  · rename_i hf; exact InsR_form h at_ sec turn hf
  · rename_i hf
    rw [hd]
    split
    · rename_i hs; exact InsR_full h hk at_ sec turn hf _ rfl _ hl hs
    · rename_i hs; exact InsR_room h hF hk at_ sec turn h1 h2 h3 hf _ rfl _ hl (by omega)
end Go.Proofs.Ythekkddmbomimaa
