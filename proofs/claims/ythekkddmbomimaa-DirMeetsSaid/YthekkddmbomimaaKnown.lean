/- The statements' own 'known': it says true, and leaves all that stood as it stood. Conditions: none. -/
import Derived.Test.YthekkddmbomimaaRef
namespace Go.Proofs.Ythekkddmbomimaa
open Go.RowKit
set_option maxRecDepth 100000
attribute [local go_sem] Oper.semAt_some

theorem k1_is : IsKey (keyK 1) 1 0 := key_is 1 (by omega)
def L0 : List (List En) := [[], [], []]
def L1 : List (List En) := [[], [⟨0, 5, 2, 1⟩], []]
def L2 : List (List En) := [[], [⟨0, 5, 2, 1⟩, ⟨0, 9, 2, 2⟩], []]
def L3 : List (List En) := [[], [⟨0, 9, 2, 2⟩], []]
theorem kn_ins1 {W : World} {p pl pn : Nat} (h : DirAt W p pl pn 4 L0) : Calls Try.prog 17 #[.pointer (some ⟨p, 0, none⟩), .agg (keyK 1).toArray, .int .u32 5, .int .u16 2, .int .u64 1] W fun e w' =>
    e = .returned (.int .i64 0) ∧ DirAt w' p pl pn 4 L1 ∧ Keeps (fun k => k = pl ∨ k = pn) W w' := Insert_dir h k1_is 5 2 1 (by omega) (by omega) (by omega)
theorem kn_ins2 {W : World} {p pl pn : Nat} (h : DirAt W p pl pn 4 L1) : Calls Try.prog 17 #[.pointer (some ⟨p, 0, none⟩), .agg (keyK 1).toArray, .int .u32 9, .int .u16 2, .int .u64 2] W fun e w' =>
    e = .returned (.int .i64 0) ∧ DirAt w' p pl pn 4 L2 ∧ Keeps (fun k => k = pl ∨ k = pn) W w' := Insert_dir h k1_is 9 2 2 (by omega) (by omega) (by omega)
theorem kn_probe {W : World} {p pl pn : Nat} (h : DirAt W p pl pn 4 L2) : Calls Try.prog 24 #[.pointer (some ⟨p, 0, none⟩), .agg (keyK 1).toArray] W fun e w' =>
    ∃ b off c, e = .returned (.slice (some ⟨b, off, none⟩) 2 c) ∧ w'.cell? ⟨b, off + 1, none⟩ = some (.int .u32 9) ∧ Keeps (fun _ => False) W w' := by
  refine (Probe_dir h k1_is 1 rfl [⟨0, 5, 2, 1⟩, ⟨0, 9, 2, 2⟩] rfl [⟨0, 9, 2, 2⟩, ⟨0, 5, 2, 1⟩] (by decide)).mono ?_
  rintro e w' ⟨v, rfl, ⟨_, a, c, rfl, h0⟩, hK⟩
  rcases h0 with h0 | ⟨b, off, rfl, _, hc⟩
  · cases h0
  · exact ⟨b, off, c, rfl, hc 1 _ rfl, hK⟩
theorem kn_bucket {W : World} {p pl pn : Nat} (h : DirAt W p pl pn 4 L2) : Calls Try.prog 14 #[.pointer (some ⟨p, 0, none⟩), .agg (keyK 1).toArray] W fun e w' =>
    e = .returned (.int .i64 1) ∧ Below W.heap.size W w' := Bucket_any k1_is W p 3 3 _ h.lts.1 (by omega) (by omega) (h.head.cell rfl)
theorem kn_tag (W : World) : Calls Try.prog 11 #[.agg (keyK 1).toArray] W fun e w' => e = .returned (.int .u16 0) ∧ Below W.heap.size W w' := Tag_any k1_is W
theorem kn_len2 {W : World} {p pl pn : Nat} (h : DirAt W p pl pn 4 L2) : Calls Try.prog 20 #[.pointer (some ⟨p, 0, none⟩)] W fun e w' => e = .returned (.int .i64 2) ∧ Keeps (fun _ => False) W w' := Len_dir h 2 rfl
theorem kn_len0 {W : World} {p pl pn : Nat} (h : DirAt W p pl pn 4 L0) : Calls Try.prog 20 #[.pointer (some ⟨p, 0, none⟩)] W fun e w' => e = .returned (.int .i64 0) ∧ Keeps (fun _ => False) W w' := Len_dir h 0 rfl
theorem kn_del {W : World} {p pl pn : Nat} (h : DirAt W p pl pn 4 L2) : Calls Try.prog 19 #[.pointer (some ⟨p, 0, none⟩), .agg (keyK 1).toArray, .int .u32 5] W fun e w' =>
    e = .returned (.bool true) ∧ DirAt w' p pl pn 4 L3 ∧ Keeps (fun k => k = pl ∨ k = pn) W w' := Del_dir h k1_is 5 1 rfl [⟨0, 5, 2, 1⟩, ⟨0, 9, 2, 2⟩] rfl
theorem kn_purge {W : World} {p pl pn : Nat} (h : DirAt W p pl pn 4 L3) : Calls Try.prog 26 #[.pointer (some ⟨p, 0, none⟩), .int .u32 9, .int .u32 10, .int .u64 3] W fun e w' =>
    e = .returned (.int .i64 1) ∧ DirAt w' p pl pn 4 L0 ∧ Keeps (fun k => k = pl ∨ k = pn) W w' := Purge_dir h 9 10 3 (by omega) (by omega) (by omega)
theorem kn_new (W : World) : Calls Try.prog 13 #[.int .i64 3, .int .i64 4] W fun e w' => ∃ p pl pn, e = .returned (.pointer (some ⟨p, 0, none⟩)) ∧ DirAt w' p pl pn 4 L0 ∧ W.heap.size ≤ p ∧ W.heap.size ≤ pl ∧ W.heap.size ≤ pn ∧ Below W.heap.size W w' := New_any W 3 4

/-- A load of a whole array under a guard that holds. -/
theorem wpList_load_rowG {P : Program} {ops : Array Oper} {rest : List Oper} {o : Oper} {a : Act} {w : World} {Q : Exit → Act → World → Prop} (hgd : Region.wanted o (yielded ops a.tmps) = true) (ty : TypeId) (x : Operand) (ho : o.op = .load ty x)
    (g : Nat) (hx : a.eval x = .pointer (some ⟨g, 0, none⟩)) (t : TypeId) (cs : Array Value) (fr : Nat × Nat) (d : TypeDesc) (hg : w.heap[g]? = some (.cells cs t fr))
    (hu : P.underlying ty = some d) (hd : (match d with | .struct _ | .array _ _ => true | _ => false) = true) (hi : (P.info? ty).map (·.size) = some cs.size)
    (h : wpList P ops Q rest (a.put o.dst (.agg cs)) w) : wpList P ops Q (o :: rest) a w := by
  unfold wpList
  rw [if_pos hgd]
  exact .inl (wp_load_row ty x ho g hx t cs fr d hg hu hd hi h)
theorem wpList_store_rowTo {P : Program} {ops : Array Oper} {rest : List Oper} {o : Oper} {a : Act} {w : World} {Q : Exit → Act → World → Prop} (w' : World) (hgd : o.guard = none) (ty : TypeId) (x y : Operand) (ho : o.op = .store ty x y)
    (g : Nat) (cells : Array Value) (hx : a.eval x = .pointer (some ⟨g, 0, none⟩)) (hy : a.eval y = .agg cells)
    (t : TypeId) (old : Array Value) (hg : w.heap[g]? = some (.cells old t (0, 0))) (hi : (P.info? ty).map (·.size) = some cells.size)
    (hold : old.size = cells.size) (h1 : cells.all (·.oneCell') = true) (hw : w.setRow g cells = w')
    (h : wpList P ops Q rest (a.put o.dst undef) w') : wpList P ops Q (o :: rest) a w := by
  subst hw; exact wpList_store_row hgd ty x y ho g cells hx hy t old hg hi hold h1 h

set_option maxHeartbeats 1000000 in
theorem known_any (w : World) : Calls Try.prog 9 #[] w fun e w' => e = .returned (.bool true) ∧ Keeps (fun _ => False) w w' := by
  have hS : (Try.prog.info? 23).map (·.size) = some (keyK 1).toArray.size := by kernel_rfl
  have HS := Lib.hid hS
  clear hS
  go_enter Try.func9, Try.ntmps9
  go_wp2_with fail
  refine (kn_new w).mono ?_
  rintro e w1 ⟨p, pl, pn, rfl, hD, hp, hpl, hpn, hb⟩
  have HD := Lib.hid hD
  have HB := Lib.hid hb
  clear hD hb
  go_wp2_with fail
  refine (key_any w1 1).mono ?_
  rintro e w2 ⟨rfl, hb2⟩
  have hZ : Blk (w2.alloc (.cells zeroK.toArray 23)) w2.heap.size zeroK 23 := Blk.new w2 zeroK 23
  have hK3 := hZ.setRow (keyK 1)
  have hk23 : Keeps (fun k => w2.heap.size ≤ k) w2 ((w2.alloc (.cells zeroK.toArray 23)).setRow w2.heap.size (keyK 1).toArray) := (Keeps.alloc _ _ _).trans (Keeps.setRow _ _ _ (Nat.le_refl _))
  have hd2 := HD.out.below hb2
  obtain ⟨x1, x2, x3⟩ := hd2.lts
  have hd3 := hd2.keeps hk23 (by omega) (by omega) (by omega)
  have hs12 := hb2.size
  have hnl : w2.heap.size ≠ pl ∧ w2.heap.size ≠ pn := by omega
  have hs1 := HB.out.size
  have hkw : Keeps (fun _ => False) w ((w2.alloc (.cells zeroK.toArray 23)).setRow w2.heap.size (keyK 1).toArray) := ((Keeps.ofBelow HB.out).trans (Keeps.ofBelow hb2)).transNew hk23 (fun k h1 h2 => by omega)
  obtain ⟨w3, hw3⟩ : ∃ w3, (w2.alloc (.cells zeroK.toArray 23)).setRow w2.heap.size (keyK 1).toArray = w3 := ⟨_, rfl⟩
  rw [hw3] at hK3 hd3 hkw
  have HZ := Lib.hid hZ
  have HK3 := Lib.hid hK3
  have HD3 := Lib.hid hd3
  have HKW := Lib.hid hkw
  have HW3 := Lib.hid hw3
  clear hZ hK3 hk23 hd2 hd3 hkw hb2 HD HB x1 x2 x3 hw3
  go_wp2_with (first
    | (refine wpList_store_rowTo w3 rfl 23 (.tmp 2) (.tmp 9) rfl w2.heap.size (keyK 1).toArray rfl rfl 23 zeroK.toArray HZ.out HS.out rfl (by kernel_rfl) HW3.out ?_))
  have hd3 : DirAt w3.drew p pl pn 4 L0 := HD3.out.keeps (Keeps.drew (fun _ => False) _) id id id
  have hkw3 : Keeps (fun _ => False) w w3.drew := HKW.out.trans (Keeps.drew _ _)
  have hk3 : Blk w3.drew w2.heap.size (keyK 1) 23 := HK3.out
  have hu := Try.underlying23
  refine wp_region_held_drew (S := fun w' => Blk w' w2.heap.size (keyK 1) 23) (by kernel_rfl) hk3 (fun _ => ?_)
  refine take_at 0 (some 10) (.pointer (some ⟨p, 0, none⟩)) rfl rfl (by kernel_rfl) (by kernel_rfl) (by kernel_rfl) (fun _ _ _ h => h) (.inl ⟨by rfl, fun w' hS => ?_⟩) hk3 ?_
  · go_simp
  try simp only [Act.put, List.setIfInBounds_toArray, List.set_cons_zero, List.set_cons_succ]
  refine take_at 1 (some 11) (.agg (keyK 1).toArray) rfl rfl (by kernel_rfl) (by kernel_rfl) (by kernel_rfl) (fun _ _ _ h => h) (.inl ⟨by rfl, fun w' hS => ?_⟩) hk3 ?_
  · exact run_load_blk hS 23 _ Try.underlying23 rfl HS.out _ _ (.tmp 2) rfl rfl
  try simp only [Act.put, List.setIfInBounds_toArray, List.set_cons_zero, List.set_cons_succ]
  refine take_at 3 (some 13) (.pointer (some ⟨p, 0, none⟩)) rfl rfl (by kernel_rfl) (by kernel_rfl) (by kernel_rfl) (fun _ _ _ h => h) (.inl ⟨by rfl, fun w' hS => ?_⟩) hk3 ?_
  · go_simp
  try simp only [Act.put, List.setIfInBounds_toArray, List.set_cons_zero, List.set_cons_succ]
  refine take_at 4 (some 14) (.agg (keyK 1).toArray) rfl rfl (by kernel_rfl) (by kernel_rfl) (by kernel_rfl) (fun _ _ _ h => h) (.inl ⟨by rfl, fun w' hS => ?_⟩) hk3 ?_
  · exact run_load_blk hS 23 _ Try.underlying23 rfl HS.out _ _ (.tmp 2) rfl rfl
  try simp only [Act.put, List.setIfInBounds_toArray, List.set_cons_zero, List.set_cons_succ]
  refine wpAnyH_all (rs := [2]) (by kernel_rfl) (by simp) ?_
  intro i2 hi2
  obtain rfl : i2 = 2 := by simpa using hi2
  refine call_at (some 12) rfl rfl rfl 17 #[.pointer (some ⟨p, 0, none⟩), .agg (keyK 1).toArray, .int .u32 5, .int .u16 2, .int .u64 1] ?_ ?_
  · go_simp
  refine (kn_ins1 hd3).mono ?_
  rintro e w4 ⟨rfl, hD4, hK4⟩
  have hk4 : Blk w4 w2.heap.size (keyK 1) 23 := hk3.keeps hK4 (by omega)
  refine ⟨_, rfl, hk4, ?_⟩
  try simp only [Act.put, List.setIfInBounds_toArray, List.set_cons_zero, List.set_cons_succ]
  refine wpAnyH_all (rs := [5]) (by kernel_rfl) (by simp) ?_
  intro i5 hi5
  obtain rfl : i5 = 5 := by simpa using hi5
  refine call_at (some 15) rfl rfl rfl 17 #[.pointer (some ⟨p, 0, none⟩), .agg (keyK 1).toArray, .int .u32 9, .int .u16 2, .int .u64 2] ?_ ?_
  · go_simp
  refine (kn_ins2 hD4).mono ?_
  rintro e w5 ⟨rfl, hD5, hK5⟩
  have hk5 : Blk w5 w2.heap.size (keyK 1) 23 := hk4.keeps hK5 (by omega)
  refine ⟨_, rfl, hk5, ?_⟩
  try simp only [Act.put, List.setIfInBounds_toArray, List.set_cons_zero, List.set_cons_succ]
  refine take_at 6 (some 3) (.int .i64 0) rfl rfl (by kernel_rfl) (by kernel_rfl) (by kernel_rfl) (fun _ _ _ h => h) (.inl ⟨by rfl, fun w' hS => ?_⟩) hk5 ?_
  · go_simp
  try simp only [Act.put, List.setIfInBounds_toArray, List.set_cons_zero, List.set_cons_succ]
  refine take_at 7 (some 4) (.int .i64 0) rfl rfl (by kernel_rfl) (by kernel_rfl) (by kernel_rfl) (fun _ _ _ h => h) (.inl ⟨by rfl, fun w' hS => ?_⟩) hk5 ?_
  · go_simp
  try simp only [Act.put, List.setIfInBounds_toArray, List.set_cons_zero, List.set_cons_succ]
  refine wpAnyH_done (by kernel_rfl) ?_ _
  have hkw5 : Keeps (fun _ => False) w w5 := (hkw3.transNew hK4 (fun k h1 h2 => by omega)).transNew hK5 (fun k h1 h2 => by omega)
  have HD5 := Lib.hid hD5
  have HK5 := Lib.hid hk5
  have KW5 := Lib.hid hkw5
  clear hD5 hk5 hkw5 hK5 hk4 hK4 hD4 hd3 hkw3 hk3 HZ HK3 HD3 HKW HW3
  go_wp2_with (first | (refine wpList_load_row rfl 23 _ rfl w2.heap.size rfl 23 (keyK 1).toArray (0, 0) _ HK5.out Try.underlying23 rfl HS.out ?_))
  refine (kn_probe HD5.out).mono ?_
  rintro e w6 ⟨b, off, c, rfl, c9, hK6⟩
  have HD6 := Lib.hid (HD5.out.keeps hK6 id id id)
  have HK6 := Lib.hid (HK5.out.keeps hK6 id)
  have KW6 := Lib.hid (KW5.out.trans hK6)
  clear hK6
  go_wp2_with (first | (refine wpList_load_rowG rfl 23 _ rfl w2.heap.size rfl 23 (keyK 1).toArray (0, 0) _ HK6.out Try.underlying23 rfl HS.out ?_))
  refine (kn_bucket HD6.out).mono ?_
  rintro e w7 ⟨rfl, hb7⟩
  have hK7 : Keeps (fun _ => False) w6 w7 := Keeps.ofBelow hb7
  have HD7 := Lib.hid (HD6.out.keeps hK7 id id id)
  have HK7 := Lib.hid (HK6.out.keeps hK7 id)
  have KW7 := Lib.hid (KW6.out.trans hK7)
  clear hK7 hb7 c9
  go_wp2_with (first | (refine wpList_load_rowG rfl 23 _ rfl w2.heap.size rfl 23 (keyK 1).toArray (0, 0) _ HK7.out Try.underlying23 rfl HS.out ?_))
  refine (kn_tag w7).mono ?_
  rintro e w8 ⟨rfl, hb8⟩
  have hK8 : Keeps (fun _ => False) w7 w8 := Keeps.ofBelow hb8
  have HD8 := Lib.hid (HD7.out.keeps hK8 id id id)
  have HK8 := Lib.hid (HK7.out.keeps hK8 id)
  have KW8 := Lib.hid (KW7.out.trans hK8)
  clear hK8 hb8
  go_wp2_with (first | (refine wpList_load_rowG rfl 23 _ rfl w2.heap.size rfl 23 (keyK 1).toArray (0, 0) _ HK8.out Try.underlying23 rfl HS.out ?_))
  refine (kn_len2 HD8.out).mono ?_
  rintro e w9 ⟨rfl, hK9⟩
  have HD9 := Lib.hid (HD8.out.keeps hK9 id id id)
  have HK9 := Lib.hid (HK8.out.keeps hK9 id)
  have KW9 := Lib.hid (KW8.out.trans hK9)
  clear hK9
  go_wp2_with (first | (refine wpList_load_rowG rfl 23 _ rfl w2.heap.size rfl 23 (keyK 1).toArray (0, 0) _ HK9.out Try.underlying23 rfl HS.out ?_))
  refine (kn_del HD9.out).mono ?_
  rintro e wa ⟨rfl, hDa, hKa⟩
  have HDa := Lib.hid hDa
  have HKa := Lib.hid (HK9.out.keeps hKa (by omega))
  have KWa := Lib.hid (KW9.out.transNew hKa (fun k h1 h2 => by omega))
  clear hKa hDa
  go_wp2_with (first | (refine wpList_load_rowG rfl 23 _ rfl w2.heap.size rfl 23 (keyK 1).toArray (0, 0) _ HKa.out Try.underlying23 rfl HS.out ?_))
  refine (kn_purge HDa.out).mono ?_
  rintro e wb ⟨rfl, hDb, hKb⟩
  have HDb := Lib.hid hDb
  have HKb := Lib.hid (HKa.out.keeps hKb (by omega))
  have KWb := Lib.hid (KWa.out.transNew hKb (fun k h1 h2 => by omega))
  clear hKb hDb
  go_wp2_with (first | (refine wpList_load_rowG rfl 23 _ rfl w2.heap.size rfl 23 (keyK 1).toArray (0, 0) _ HKb.out Try.underlying23 rfl HS.out ?_))
  refine (kn_len0 HDb.out).mono ?_
  rintro e wc ⟨rfl, hKc⟩
  have KWc := Lib.hid (KWb.out.trans hKc)
  clear hKc
  go_wp2
  go_ret
  exact ⟨rfl, KWc.out⟩
end Go.Proofs.Ythekkddmbomimaa
