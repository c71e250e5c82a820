/- The contract of (*Dir).Probe: the key's entries, the last one first. Conditions: the receiver is a directory in memory; the key reads as bytes. -/
import Derived.Test.YthekkddmbomimaaBack
import Derived.Great.BuildSlice
namespace Go.Proofs.Ythekkddmbomimaa
open Go.RowKit
set_option maxRecDepth 100000
attribute [local go_sem] Oper.semAt_some

/-- One entry's slice literal. -/
theorem wpList_buildEntry {ops : Array Oper} {rest : List Oper} {o : Oper} {a : Act} {w : World} {Q : Exit → Act → World → Prop} (hg : o.guard = none) (x : Operand) (ho : o.op = .buildSlice 45 1 #[(0, x)]) (e : En) (hx : a.eval x = .agg e.enc.toArray)
    (h : wpList Try.prog ops Q rest (a.put o.dst (.slice (some ⟨w.heap.size, 0, none⟩) 1 1)) (w.alloc (.cells e.enc.toArray 55))) : wpList Try.prog ops Q (o :: rest) a w := by
  obtain ⟨i0, hi0, hz0, hs0, hb0⟩ := info_parts info55
  refine wpList_buildSlice hg 45 55 1 #[(0, x)] ho _ i0 _ Try.underlying45 hi0 hz0 (by rw [hs0]; omega) (by rw [hs0]; omega) ?_ h
  simp [hs0, hx, Instr.fill, En.enc, Value.cells]
  rw [show Array.range 4 = #[0, 1, 2, 3] from by decide]
  simp
theorem Blk.isCells {w : World} {b : Nat} {cs : List Value} {t : TypeId} (h : Blk w b cs t) {o : Obj} (ho : w.heap[b]? = some o) : o.isCells = true := by
  unfold Blk at h; rw [h] at ho; cases ho; rfl
/-- A turn of a block that holds no cells leaves what is known of blocks of cells. -/
theorem Blk.own {X Y : World} {row : Option Nat} (hg : X.grownBy Y row) (hr : ∀ r, row = some r → ∃ o : Obj, X.heap[r]? = some o ∧ o.isCells = false) {b : Nat} {cs : List Value} {t : TypeId} (h : Blk X b cs t) : Blk Y b cs t :=
  h.keeps (S := fun k => row = some k) (Keeps.ofGrownBy hg (fun k e => e)) (fun e => by
    obtain ⟨o, ho, hc⟩ := hr b e
    rw [h.isCells ho] at hc; cases hc)
theorem SlOwn.own {X Y : World} {row : Option Nat} (hg : X.grownBy Y row) (hr : ∀ r, row = some r → ∃ o : Obj, X.heap[r]? = some o ∧ o.isCells = false) {v : Value} {e : TypeId} {size n : Nat} {cs : List Value} (h : SlOwn X v e size n cs) : SlOwn Y v e size n cs := by
  obtain ⟨hl, a, c, rfl, hnc, hm, h2⟩ := h
  refine ⟨hl, a, c, rfl, hnc, hm, ?_⟩
  rcases h2 with rfl | ⟨g, cur, rfl, hb, hc, ht⟩
  · exact .inl rfl
  · exact .inr ⟨g, cur, rfl, hb.own hg hr, hc, ht⟩
theorem Keeps.own {S : Nat → Prop} {w X Y : World} {row : Option Nat} (h : Keeps S w X) (hg : X.grownBy Y row) {B : Nat} (hB : w.heap.size ≤ B) (hr : ∀ r, row = some r → B ≤ r) : Keeps S w Y :=
  h.transNew (Keeps.ofGrownBy hg (S := fun k => row = some k) (fun k e => e)) (fun k hk e => by have := hr k e; omega)
theorem keepsFrom_of_keeps {S : Nat → Prop} {W W' : World} (h : Keeps S W W') (B : Nat) (hS : ∀ k o, S k → W.heap[k]? = some o → o.isCells = true) : KeepsFrom B W W' :=
  ⟨h.size, fun k o _ hk ho => by
    have hlt : k < W.heap.size := (Array.getElem?_eq_some_iff.1 hk).1
    rw [h.block k hlt (fun hs => by rw [hS k o hs hk] at ho; cases ho)]; exact hk⟩

theorem SlOwn.blk {w : World} {v : Value} {e : TypeId} {size n : Nat} {cs : List Value} (h : SlOwn w v e size n cs) {g : Nat} (hg : blkOf v = some g) : ∃ cur, Blk w g cur e := by
  obtain ⟨hl, a, c, rfl, hnc, hm, h2⟩ := h
  rcases h2 with rfl | ⟨g', cur, rfl, hb, hc, ht⟩
  · cases a <;> simp [blkOf] at hg
  · cases c with
    | zero => simp [blkOf] at hg
    | succ c => simp [blkOf] at hg; subst hg; exact ⟨cur, hb⟩
theorem SlR.cellsAt {w : World} {b off n c size : Nat} {cs : List Value} (h : SlR w (.slice (some ⟨b, off, none⟩) n c) size n cs) : ∀ j u, cs[j]? = some u → w.cell? ⟨b, off + j, none⟩ = some u := by
  obtain ⟨hl, a, c', he, h0⟩ := h
  cases he
  rcases h0 with rfl | ⟨b', off', hb, _, hc⟩
  · obtain rfl : cs = [] := List.eq_nil_of_length_eq_zero (by omega)
    intro j u hu; simp at hu
  · cases hb; exact hc

theorem pairs_map (l : List En) : (pairs l).map (fun x => x.1.2) = l.reverse := by
  unfold pairs
  rw [List.map_map, List.map_reverse]
  congr 1
  refine List.ext_getElem (by simp) (fun n h1 h2 => by simp)
def outP {l : List En} (t : Nat) (pre : List (PE l)) : List En := (pre.map fun x => x.1.2).filter fun e => e.tag == t
structure ProbeI (w w3 : World) (ks : List Value) (l : List En) (t : Nat) (pre : List (PE l)) (W : World) : Prop where
  out : ∃ v, Blk W (w.heap.size + 1) [v] 45 ∧ SlOwn W v 55 4 (outP t pre).length (cellsE (outP t pre)) ∧ (∀ g, blkOf v = some g → w3.heap.size ≤ g)
  key : Blk W w.heap.size ks 23
  kept : Keeps (fun _ => False) w W
  size : w3.heap.size ≤ W.heap.size
theorem ProbeI.own {w w3 : World} {ks : List Value} {l : List En} {t : Nat} (hw : w.heap.size ≤ w3.heap.size) : OwnFrom w3.heap.size (ProbeI w w3 ks l t) := fun pre X Y row h hg hr => by
  obtain ⟨⟨v, h1, h2, h3⟩, h4, h5, h6⟩ := h
  exact ⟨⟨v, h1.own hg (fun r e => (hr r e).2), h2.own hg (fun r e => (hr r e).2), h3⟩, h4.own hg (fun r e => (hr r e).2), h5.own hg hw (fun r e => (hr r e).1), Nat.le_trans h6 hg.size⟩

set_option maxHeartbeats 1000000 in
theorem Probe_dir {w : World} {p pl pn s : Nat} {L : List (List En)} (h : DirAt w p pl pn s L) {ks : List Value} {n t : Nat} (hk : IsKey ks n t) (i : Nat) (hi : n % L.length = i) (l : List En) (hl : L[i]? = some l) (X : List En) (hX : (l.reverse.filter fun e => e.tag == t) = X) :
    Calls Try.prog 24 #[.pointer (some ⟨p, 0, none⟩), .agg ks.toArray] w fun e w' => ∃ v, e = .returned v ∧ SlR w' v 4 X.length (cellsE X) ∧ Keeps (fun _ => False) w w' := by
  obtain ⟨i0, hi0, hz0, hs0, hb0⟩ := info_parts info55
  have hW2 := (((Below.refl _ w).alloc (Nat.le_refl _) (.cells ks.toArray 23)).alloc (by simp) (.cells #[.slice none 0 0] 45))
  have hks : Blk ((w.alloc (.cells ks.toArray 23)).alloc (.cells #[.slice none 0 0] 45)) w.heap.size ks 23 := (Blk.new w ks 23).alloc _
  have hout : Blk ((w.alloc (.cells ks.toArray 23)).alloc (.cells #[.slice none 0 0] 45)) (w.heap.size + 1) [.slice none 0 0] 45 := by
    have := Blk.new (w.alloc (.cells ks.toArray 23)) [.slice none 0 0] 45
    rwa [World.size_alloc] at this
  have hD := h.below hW2
  obtain ⟨l1, l2, l3⟩ := h.lts
  have hle := h.le i l hl
  have hs16 := h.s16
  obtain ⟨q1, q2, q3⟩ := hD.lts
  have hcall := Bucket_any hk _ p L.length L.length _ q1 h.b1 h.b4 (hD.head.cell rfl)
  rw [hi] at hcall
  have HC := Lib.hid hcall
  have HK := Lib.hid hks
  have HO := Lib.hid hout
  have HD := Lib.hid hD
  have HW := Lib.hid hW2
  have HS := Lib.hid (size23k hk)
  have HL := Lib.hid hl
  have HX := Lib.hid hX
  have HOK := Lib.hid (h.ok l (List.mem_of_getElem? hl))
  clear hcall hks hout hD hi hl hX h hW2 q1 q2 q3
  refine (callsIn_wide (n := 5)).1 (callsIn_of_wp_marks Try.func24 rfl trivial ?_ rfl)
  simp only [Try.ntmps24, List.size_toArray, List.length_cons, List.length_nil, Nat.reduceAdd, Nat.reduceSub, Array.replicate_succ, Array.replicate_zero, List.push_toArray, List.append_toArray, List.nil_append, List.cons_append]
  refine wpIn_wide.2 ?_
  go_wp2_with (first | (refine wpList_load_row rfl 23 _ rfl w.heap.size rfl 23 ks.toArray (0, 0) _ HK.out Try.underlying23 rfl HS.out ?_))
  refine HC.out.mono ?_
  rintro e w1 ⟨rfl, hb1⟩
  have hD1 := HD.out.below hb1
  have hbuck := Lib.hid (bucket_dir2 hD1 i l HL.out)
  have HB1 := Lib.hid hb1
  clear hb1 hD1
  go_wp2_with fail
  refine hbuck.out.mono ?_
  rintro e w2 ⟨rfl, hD2, hK2, hS2⟩
  have HB2 := Lib.hid hK2
  have HD2 := Lib.hid hD2
  have HS2 := Lib.hid hS2
  clear hD2 hK2 hS2
  have hbw := Lib.hid (Backward_any w2 (some ⟨pl, i * s * 4, none⟩) l.length s)
  go_wp2_with fail
  refine hbw.out.mono ?_
  rintro e w3 ⟨rfl, hw3⟩
  have HW3 := Lib.hid hw3
  clear hw3
  go_wp2_with fail
  have hsz3 : w3.heap.size = w2.heap.size + 1 := by rw [HW3.out]; simp
  have hb23 : Below w2.heap.size w2 w3 := by rw [HW3.out]; exact Below.alloc1 _ _
  have hbox : Blk w3 w2.heap.size [.slice (some ⟨pl, i * s * 4, none⟩) l.length s] 45 := by rw [HW3.out]; exact Blk.new w2 [_] 45
  have hcells : ∀ j u, (cellsE l)[j]? = some u → w3.cell? ⟨pl, i * s * 4 + j, none⟩ = some u := fun j u hu => (hb23.cell (p := ⟨pl, i * s * 4 + j, none⟩) HD2.out.lts.2.1).trans (HS2.out.cellsAt j u hu)
  have hk13 : Keeps (fun _ => False) ((w.alloc (.cells ks.toArray 23)).alloc (.cells #[.slice none 0 0] 45)) w3 := ((Keeps.ofBelow HB1.out).trans HB2.out).trans (Keeps.ofBelow hb23)
  have hkey3 : Blk w3 w.heap.size ks 23 := HK.out.keeps hk13 id
  have hout3 : Blk w3 (w.heap.size + 1) [.slice none 0 0] 45 := HO.out.keeps hk13 id
  have hkw3 : Keeps (fun _ => False) w w3 := (Keeps.ofBelow HW.out).trans hk13
  have hsw : w.heap.size + 2 ≤ w2.heap.size := by
    have h1 := HB1.out.size
    have h2 := HB2.out.size
    simp at h1; omega
  have hI0 : ProbeI w w3 ks l t [] w3 := ⟨⟨_, hout3, SlOwn.nil _ _ _, fun g hg => by simp [blkOf] at hg⟩, hkey3, hkw3, Nat.le_refl _⟩
  have hplw := HD2.out.lts.2.1
  have hstops := back_stops Fence.wide 4 trivial rfl (by omega) w2.heap.size pl (i * s * 4) s l (by omega) w3 (by omega) (by omega) (hbox.cell rfl) hcells
  have HI0 := Lib.hid hI0
  have HST := Lib.hid hstops
  have HB3 := Lib.hid hbox
  clear hI0 hstops hbox hkw3 hout3 hkey3 hk13 hcells HB1 HB2 HC hbuck hbw HS2 HK HO HD HW
  refine (wpIn_wide (n := 5)).1 (wpIn_rangeFunc_ownH (α := PE l) rfl (by omega) (gf := 52) (lb := #[.pointer (some ⟨w2.heap.size, 0, none⟩)]) rfl trivial (enters_of Try.func52 (by kernel_rfl) rfl)
    HST.out (fun h k => h.trans k) (fun W l' o o' hl' ho hc hwk => ?kb) (Below.refl _ _) (fun _ => rfl)
    (ProbeI w w3 ks l t) (fun _ _ _ => False) (ProbeI.own (by omega)) (fun _ _ _ _ _ hs _ _ => hs) HI0.out
    (fun x a' W => ∃ Bx, Blk W Bx x.1.2.enc 55 ∧ w3.heap.size ≤ Bx ∧ a' = { tmps := #[.pointer (some ⟨p, 0, none⟩), .agg ks.toArray, undef, .pointer (some ⟨w.heap.size, 0, none⟩), .slice none 0 0, .pointer (some ⟨w.heap.size + 1, 0, none⟩), undef, .pointer (some ⟨Bx, 0, none⟩), .pointer (some ⟨p, 0, none⟩), .pointer (some ⟨p, 0, none⟩), .agg ks.toArray, .int .i64 i, .slice (some ⟨pl, i * s * 4, none⟩) l.length s, .func (.func 52) #[] #[.pointer (some ⟨w2.heap.size, 0, none⟩)], .int .i64 x.1.1, .agg x.1.2.enc.toArray, undef, undef, undef, undef, undef, undef, undef, undef, undef, undef], defers := [] })
    (fun x a' => fun _ X Y row hs hg hr => by obtain ⟨Bx, h1, h2, h3⟩ := hs; exact ⟨Bx, h1.own hg (fun r e => (hr r e).2), h2, h3⟩) ?assign ?body ?done ?stop)
  case kb => exact ⟨World.putObj_heap_other (by omega), World.putObj_heap_other (by omega)⟩
  case assign =>
    rintro l' pre x W K hI hK
    have HI := Lib.hid hI
    have hsz := hI.size
    have HKK := Lib.hid hK
    clear hI hK
    unfold encP En.enc
    gi_wp2
    have hb := Below.alloc1 W (.cells x.1.2.enc.toArray 55)
    refine HKK.out _ _ (keepsFrom_of_keeps (S := fun _ => False) (Keeps.alloc _ _ _) _ (fun _ _ h _ => h.elim)) ⟨Below.heap_alloc _ _ _ (by omega), Below.heap_alloc _ _ _ (by omega)⟩
      ?_ ⟨W.heap.size, Blk.new W _ _, hsz, rfl⟩
    obtain ⟨⟨v, h1, h2, h3⟩, h4, h5, h6⟩ := HI.out
    exact ⟨⟨v, h1.alloc _, h2.below (Below.alloc1 _ _), h3⟩, h4.alloc _, h5.trans (Keeps.alloc _ _ _), Nat.le_trans h6 (by simp)⟩
  case body =>
    rintro l' pre x a' W _ _ hI ⟨Bx, hBx, hBx2, rfl⟩ hlt
    have HI := Lib.hid hI
    have HBx := Lib.hid hBx
    clear hI hBx
    gi_wp2
    refine region_in_round (S := fun w' => Blk w' w.heap.size ks 23 ∧ Blk w' Bx x.1.2.enc 55 ∧ Keeps (fun _ => False) W w') l' _ (by kernel_rfl) (by kernel_rfl) ?_ ?_
    · intro a' w' hq
      exact hq
    have hS0 : Blk W.drew w.heap.size ks 23 ∧ Blk W.drew Bx x.1.2.enc 55 ∧ Keeps (fun _ => False) W W.drew := ⟨HI.out.key, HBx.out, Keeps.drew _ _⟩
    refine wpAnyH_take (i := 0) (v := .pointer (some ⟨Bx, 0, none⟩)) rfl (by kernel_rfl) (by kernel_rfl) (by kernel_rfl) (fun _ _ _ h => h) (.inl ⟨by rfl, fun w' hS => ?_⟩) hS0 ?_
    · go_simp
    refine wpAnyH_take (i := 1) (v := .int .u16 x.1.2.tag) rfl (by kernel_rfl) (by kernel_rfl) (by kernel_rfl) (fun _ _ _ h => h) (.inl ⟨by rfl, fun w' hS => ?_⟩) hS0 ?_
    · have := hS.2.1.cell (j := 0) rfl
      go_simp
    refine wpAnyH_take (i := 2) (v := .agg ks.toArray) rfl (by kernel_rfl) (by kernel_rfl) (by kernel_rfl) (fun _ _ _ h => h) (.inl ⟨by rfl, fun w' hS => ?_⟩) hS0 ?_
    · exact run_load_blk hS.1 23 _ Try.underlying23 rfl HS.out _ _ (.tmp 3) rfl rfl
    refine wpAnyH_all (rs := [3]) (by kernel_rfl) (by simp) ?_
    intro i3 hi3
    obtain rfl : i3 = 3 := by simpa using hi3
    refine wpOp_call rfl rfl 11 #[.agg ks.toArray] ?_ ?_
    · go_simp
    refine (Tag_any hk W.drew).mono ?_
    rintro e w4 ⟨rfl, hb4⟩
    have hS4 : Blk w4 w.heap.size ks 23 ∧ Blk w4 Bx x.1.2.enc 55 ∧ Keeps (fun _ => False) W w4 := ⟨hS0.1.below' hb4, hS0.2.1.below' hb4, hS0.2.2.trans (Keeps.ofBelow hb4)⟩
    refine ⟨_, rfl, hS4, ?_⟩
    have hWs := HI.out.size
    have hkp4 : KpB w2.heap.size pl W w4 := ⟨hS4.2.2.block _ (by omega) id, hS4.2.2.block _ (by omega) id⟩
    obtain ⟨⟨vo, hv1, hv2, hv3⟩, hi2, hi3', hi4⟩ := HI.out
    cases hb : (x.1.2.tag == t) with
    | false =>
      have hbi : ((x.1.2.tag : Int) == (t : Int)) = false := by
        have := beq_eq_false_iff_ne.1 hb
        exact beq_eq_false_iff_ne.2 (by omega)
      have hout : outP t (pre ++ [x]) = outP t pre := by simp [outP, hb]
      have hI' : ProbeI w w3 ks l t (pre ++ [x]) w4 :=
        ⟨⟨vo, hv1.keeps hS4.2.2 id, by rw [hout]; exact hv2.keeps hS4.2.2 (fun _ _ h => h), hv3⟩, hS4.1, hi3'.trans hS4.2.2, Nat.le_trans hi4 hS4.2.2.size⟩
      refine wpAnyH_take (i := 4) (v := .bool false) rfl (by kernel_rfl) (by kernel_rfl) (by kernel_rfl) (fun _ _ _ h => h) (.inl ⟨by rfl, fun w' hS => ?_⟩) hS4 ?_
      · go_simp
      refine wpAnyH_done (by kernel_rfl) ?_ _
      have HI4 := Lib.hid hI'
      have HS4 := Lib.hid hS4
      have HKP := Lib.hid hkp4
      clear hS4 hI' hS0 hb4 hv1 hv2 hv3 hi2 hi3' hi4 hkp4
      change Exit.then _ _ Exit.normal { tmps := #[.pointer (some ⟨p, 0, none⟩), .agg ks.toArray, undef, .pointer (some ⟨w.heap.size, 0, none⟩), .slice none 0 0, .pointer (some ⟨w.heap.size + 1, 0, none⟩), undef, .pointer (some ⟨Bx, 0, none⟩), .pointer (some ⟨p, 0, none⟩), .pointer (some ⟨p, 0, none⟩), .agg ks.toArray, .int .i64 i, .slice (some ⟨pl, i * s * 4, none⟩) l.length s, .func (.func 52) #[] #[.pointer (some ⟨w2.heap.size, 0, none⟩)], .int .i64 x.1.1, .agg x.1.2.enc.toArray, .pointer (some ⟨Bx, 0, none⟩), .int .u16 x.1.2.tag, .agg ks.toArray, .int .u16 t, .bool false, undef, undef, undef, undef, undef], defers := [] } w4
      gi_wp2
      exact ⟨keepsFrom_of_keeps (S := fun _ => False) HS4.out.2.2 _ (fun _ _ h _ => h.elim), HKP.out, HI4.out⟩
    | true =>
      have hbi : ((x.1.2.tag : Int) == (t : Int)) = true := by
        have := beq_iff_eq.1 hb
        exact beq_iff_eq.2 (by omega)
      refine wpAnyH_take (i := 4) (v := .bool true) rfl (by kernel_rfl) (by kernel_rfl) (by kernel_rfl) (fun _ _ _ h => h) (.inl ⟨by rfl, fun w' hS => ?_⟩) hS4 ?_
      · go_simp
      refine wpAnyH_done (by kernel_rfl) ?_ _
      have hv1' := hv1.keeps hS4.2.2 id
      have hv2' := hv2.keeps hS4.2.2 (fun _ _ h => h)
      obtain ⟨av, cv, rfl, _⟩ := hv2'.form
      have hxl : x.1.2.enc.length = 4 := rfl
      have hb5 : Below w4.heap.size w4 (w4.alloc (.cells x.1.2.enc.toArray 55)) := Below.alloc1 _ _
      have hlit : SlR (w4.alloc (.cells x.1.2.enc.toArray 55)) (.slice (some ⟨w4.heap.size, 0, none⟩) 1 1) 4 1 (cellsE [x.1.2]) :=
        ⟨by simp [cellsE, hxl], _, _, rfl, .inr ⟨_, 0, rfl, by simp, fun j u hu => by
          rw [Nat.zero_add]; refine (Blk.new w4 x.1.2.enc 55).cell ?_
          simpa [cellsE] using hu⟩⟩
      have hplen : (outP t pre).length ≤ l.length := by
        have h1 : (outP t pre).length ≤ pre.length := by
          unfold outP; exact Nat.le_trans (List.length_filter_le _ _) (by simp)
        omega
      obtain ⟨v', w5, hrun, hown, hk5, hbk⟩ := run_appendOwn (P := Try.prog) 45 45 45 55 i0 _ 4 24 Try.underlying45 Try.underlying45 hi0 hz0 hs0 hb0 rfl (hv2'.below hb5) hlit (cellsE_one_cell [x.1.2]) (by unfold maxLen; omega) (by omega)
      have hWw : w3.heap.size ≤ w4.heap.size := Nat.le_trans hWs hS4.2.2.size
      have hk4l : Keeps (fun _ => False) w4 (w4.alloc (.cells x.1.2.enc.toArray 55)) := Keeps.ofBelow hb5
      have hk45 : Keeps (fun k => w3.heap.size ≤ k) w4 w5 := (hk4l.mono (fun _ h => h.elim)).trans (hk5.mono (fun k h => hv3 k h))
      have hout : outP t (pre ++ [x]) = outP t pre ++ [x.1.2] := by simp [outP, hb]
      have hg5 : ∀ g, blkOf v' = some g → w3.heap.size ≤ g := by
        intro g hg
        rcases hbk with hh | ⟨hh, _⟩
        · rw [hh] at hg; exact hv3 g hg
        · rw [hh] at hg; obtain rfl := Option.some.inj hg; exact Nat.le_trans hWw (by simp)
      have e1 : w4.cell? ⟨w.heap.size + 1, 0, none⟩ = some (.slice av (outP t pre).length cv) := hv1'.cell rfl
      have hl4 : w.heap.size + 1 < w4.heap.size := by omega
      have e5 : w5.cell? ⟨w.heap.size + 1, 0, none⟩ = some (.slice av (outP t pre).length cv) := (hk45.cell (p := ⟨w.heap.size + 1, 0, none⟩) hl4 (by show ¬ w3.heap.size ≤ w.heap.size + 1; omega)).trans e1
      have f5 : w5.frozen? ⟨w.heap.size + 1, 0, none⟩ = false := (hv1'.keeps hk45 (by omega) : Blk w5 _ _ _).frozen 0
      have h5o : Blk w5 (w.heap.size + 1) [.slice av (outP t pre).length cv] 45 := hv1'.keeps hk45 (by omega)
      obtain ⟨a5, c5, rfl, _⟩ := hown.form
      have hfin : ∀ w6, Blk w6 (w.heap.size + 1) [.slice a5 ((outP t pre).length + 1) c5] 45 → Keeps (fun k => k = w.heap.size + 1) w5 w6 → KeepsFrom w3.heap.size W w6 ∧ KpB w2.heap.size pl W w6 ∧ ProbeI w w3 ks l t (pre ++ [x]) w6 := by
        intro w6 hb6 hk6
        have hk46 : Keeps (fun k => blkOf (.slice av (outP t pre).length cv) = some k ∨ k = w.heap.size + 1) W w6 :=
          ((hS4.2.2.mono (fun _ h => h.elim)).trans ((hk4l.mono (fun _ h => h.elim)).trans (hk5.mono (fun _ h => .inl h)))).trans (hk6.mono (fun _ h => .inr h))
        have hlow : ∀ k, k < w3.heap.size → k ≠ w.heap.size + 1 → ¬ (blkOf (.slice av (outP t pre).length cv) = some k ∨ k = w.heap.size + 1) := by
          rintro k h1 h2 (h3 | h3)
          · have := hv3 k h3; omega
          · exact h2 h3
        refine ⟨keepsFrom_of_keeps hk46 _ ?_, ⟨hk46.block _ (by omega) (hlow _ (by omega) (by omega)), hk46.block _ (by omega) (hlow _ (by omega) (by omega))⟩, ⟨_, hb6, ?_, hg5⟩, ?_, ?_, ?_⟩
        · rintro k o (h1 | h1) ho
          · obtain ⟨cur, hc⟩ := hv2.blk h1; exact hc.isCells ho
          · subst h1; exact hv1.isCells ho
        · rw [hout, cellsE_append, List.length_append]
          exact hown.keeps hk6 (fun b hb => by have := hg5 b hb; omega)
        · exact hi2.keeps hk46 (hlow _ (by omega) (by omega))
        · exact hi3'.transNew hk46 (fun k h1 h2 => hlow k (by omega) (by omega) h2)
        · exact Nat.le_trans hi4 hk46.size
      have HF := Lib.hid hfin
      have hrun' : (Builtin.append_ #[45, 45] 45 #[.slice av (outP t pre).length cv, .slice (some ⟨w4.heap.size, 0, none⟩) 1 1]).run Try.prog (w4.alloc (.cells x.1.2.enc.toArray 55)) = .ok (.slice a5 ((outP t pre).length + 1) c5) w5 := hrun
      have HR := Lib.hid hrun'
      clear hrun'
      have hX1 : Blk w4 Bx x.1.2.enc 55 := hS4.2.1
      have HX1 := Lib.hid hX1
      clear hX1
      have H5 := Lib.hid h5o
      clear hfin hrun hown hk45 hg5 hbk hk5 hlit hv1' hv2' hv1 hv2 hv3 hi2 hi3' hi4 hb4 hS0 hkp4 h5o
      rename_i hK0 _ _
      change Exit.then _ _ Exit.normal { tmps := #[.pointer (some ⟨p, 0, none⟩), .agg ks.toArray, undef, .pointer (some ⟨w.heap.size, 0, none⟩), .slice none 0 0, .pointer (some ⟨w.heap.size + 1, 0, none⟩), undef, .pointer (some ⟨Bx, 0, none⟩), .pointer (some ⟨p, 0, none⟩), .pointer (some ⟨p, 0, none⟩), .agg ks.toArray, .int .i64 i, .slice (some ⟨pl, i * s * 4, none⟩) l.length s, .func (.func 52) #[] #[.pointer (some ⟨w2.heap.size, 0, none⟩)], .int .i64 x.1.1, .agg x.1.2.enc.toArray, .pointer (some ⟨Bx, 0, none⟩), .int .u16 x.1.2.tag, .agg ks.toArray, .int .u16 t, .bool true, undef, undef, undef, undef, undef], defers := [] } w4
      refine hK0 _ _ ?_
      refine wpIn_cond_true rfl ?_
      refine region_in_round_lit l' _ (by kernel_rfl) (by intro a' w' hq; exact hq) ?_
      go_wp2_with (first | (refine wpList_load_row rfl 55 _ rfl Bx rfl 55 x.1.2.enc.toArray (0, 0) _ HX1.out Try.underlying55 rfl (by kernel_rfl) ?_) | (refine wpList_buildEntry rfl (.tmp 22) rfl x.1.2 rfl ?_) | (refine wpList_runAppend rfl (.tmp 21) (.tmp 23) 45 45 rfl (.slice a5 ((outP t pre).length + 1) c5) w5 (by exact HR.out) ?_))
      exact HF.out _ (H5.out.setCell 0 _) (Keeps.setCell _ _ _ (fun _ => rfl))
  case done =>
    rintro D ys W hDl hys hI hK
    obtain rfl : ys = pairs l := hys
    have HKD := Lib.hid hK
    obtain ⟨⟨v, hv1, hv2, hv3⟩, _, hkk, hsz⟩ := hI
    obtain ⟨av, cv, rfl, _⟩ := hv2.form
    have c0 := hv1.cell (j := 0) rfl
    have HV := Lib.hid hv2
    have HKK := Lib.hid hkk
    clear hv1 hv2 hv3 hK hkk
    go_wp2
    have hKd := HKD.out
    refine ⟨by simp, .inl ⟨_, _, rfl, run_takeDeferred hKd, ?_⟩⟩
    have hol : ∀ o, W.heap[D]? = some o → o.isCells = false := by intro o ho; rw [hKd] at ho; cases ho; rfl
    have hg := grownBy_putObj' W D (.deferred none)
    have hout := HV.out.own hg (fun r e => by cases e; exact ⟨_, hKd, rfl⟩)
    have hkk2 : Keeps (fun _ => False) w (W.putObj D (.deferred none)) := HKK.out.own hg (B := w.heap.size) (Nat.le_refl _) (fun r e => by cases e; omega)
    have hXe : outP t (pairs l) = X := by
      rw [← HX.out]; unfold outP; rw [pairs_map]
    refine ⟨_, results_tmp rfl _ _ _, ⟨_, rfl, ?_, hkk2⟩⟩
    rw [← hXe]
    exact hout.slr
  case stop =>
    rintro D c pre W _ _ h _
    exact h.elim
end Go.Proofs.Ythekkddmbomimaa
