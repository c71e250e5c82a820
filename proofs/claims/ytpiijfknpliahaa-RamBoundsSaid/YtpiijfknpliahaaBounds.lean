/- The walk of RamBounds: it returns true. Conditions: none. -/
import Derived.Test.YtpiijfknpliahaaRamR
namespace Go.Proofs.Ytpiijfknpliahaa
open Go.RowKit
set_option maxRecDepth 100000
attribute [local go_sem] Oper.semAt_some

def placeN (k : Int) (n : Nat) : Nat := if k.tmod n < 0 then (k.tmod n + n).toNat else (k.tmod n).toNat
theorem tmod_bounds (k : Int) (n : Nat) (hn : 1 ≤ n) : -(n : Int) < k.tmod n ∧ k.tmod n < n := by
  rcases Int.le_total 0 k with h | h
  · rw [Int.tmod_eq_emod_of_nonneg h]
    have h1 := Int.emod_nonneg k (show (n : Int) ≠ 0 by omega)
    have h2 := Int.emod_lt_of_pos k (show (0 : Int) < n by omega)
    omega
  · have e : k.tmod n = -((-k).tmod n) := by rw [Int.neg_tmod]; omega
    rw [e, Int.tmod_eq_emod_of_nonneg (by omega)]
    have h1 := Int.emod_nonneg (-k) (show (n : Int) ≠ 0 by omega)
    have h2 := Int.emod_lt_of_pos (-k) (show (0 : Int) < n by omega)
    omega
theorem placeN_lt (k : Int) (n : Nat) (hn : 1 ≤ n) : placeN k n < n := by
  have := tmod_bounds k n hn
  unfold placeN; split <;> omega
theorem Place_any (w : World) (k : Int) (n : Nat) (hn : 1 ≤ n) (hn2 : n < 4611686018427387904) :
    Calls Try.prog 20 #[.int .i64 k, .int .i64 n] w fun e w' => e = .returned (.int .i64 (placeN k n)) ∧ w' = w := by
  obtain ⟨h1, h2⟩ := tmod_bounds k n hn
  have e0 : ¬ n = 0 := by omega
  have e1 : IntKind.i64.wrap (k.tmod n) = k.tmod n := by rw [IntKind.wrap_i64]; omega
  obtain ⟨r, hr⟩ : ∃ r, k.tmod n = r := ⟨_, rfl⟩
  have hp : ((placeN k n : Nat) : Int) = if r < 0 then r + n else r := by
    unfold placeN; rw [hr]; split <;> omega
  rw [hr] at e1 h1 h2
  have e2 : IntKind.i64.wrap (r + n) = r + n := by rw [IntKind.wrap_i64]; omega
  have HP := Lib.hid hp
  clear hp
  by_cases hneg : r < 0
  · go_enter Try.func20, Try.ntmps20
    go_wp2
    go_ret
    refine ⟨?_, rfl⟩
    rw [HP.out, if_pos hneg]; rfl
  · have hneg2 : 0 ≤ r := by omega
    go_enter Try.func20, Try.ntmps20
    go_wp2
    go_ret
    refine ⟨?_, rfl⟩
    rw [HP.out, if_neg (by omega)]; rfl


theorem slr_zeros {w : World} {g m : Nat} (h : Blk w g (bytesV (List.replicate m 0)) 5) : SlR w (.slice (some ⟨g, 0, none⟩) m m) 1 (List.replicate m 0).length (bytesV (List.replicate m 0)) := by
  have h2 := slr_bytes h
  have hl : (List.replicate m 0).length = m := List.length_replicate
  rw [hl] at h2 ⊢
  exact h2
set_option maxHeartbeats 4000000 in
theorem RamBounds_any (w : World) (lim n : Int) : Calls Try.prog 4 #[.int .i64 lim, .int .i64 n] w fun e w' => e = .returned (.bool true) ∧ Keeps (fun _ => False) w w' := by
  obtain ⟨n0, hn0⟩ : ∃ n0 : Nat, min (max lim 0) 1073741824 = (n0 : Int) := ⟨(min (max lim 0) 1073741824).toNat, by omega⟩
  have hlim0 : n0 ≤ 1073741824 := by omega
  have hp5 := placeN_lt n 500 (by omega)
  have hplace := fun W => Place_any W n 500 (by omega) (by omega)
  generalize placeN n 500 = m at *
  have HPL := Lib.hid hplace
  have hmin : ∀ W : World, (Builtin.min_ #[3, 3] 3 #[.int .i64 lim, .int .i64 1073741824]).run Try.prog W = .ok (.int .i64 (min lim 1073741824)) W := fun W => run_min_int _ _ _ _ _ _ _
  have hmax : ∀ W : World, (Builtin.max_ #[3, 3] 3 #[.int .i64 (min lim 1073741824), .int .i64 0]).run Try.prog W = .ok (.int .i64 n0) W := fun W => by
    rw [show (n0 : Int) = max (min lim 1073741824) 0 by omega]; exact run_max_int _ _ _ _ _ _ _
  have e1 : IntKind.i64.wrap ((m : Int) + 64) = (m : Int) + 64 := by rw [IntKind.wrap_i64]; omega
  have HKN := Lib.hid (known_any w)
  clear hplace
  by_cases hfit : m + 64 ≤ n0
  · go_enter Try.func4, Try.ntmps4
    go_wp2_with fail
    refine HKN.out.mono ?_
    rintro e w1 ⟨rfl, hk1⟩
    have K1 := Lib.hid hk1
    clear hk1
    go_wp2_with fail
    refine (HPL.out w1).mono ?_
    rintro e w2 ⟨rfl, rfl⟩
    go_wp2_with fail
    refine (new_st w w2 K1.out lim n0 hn0).mono ?_
    rintro e w3 ⟨r, ro3, rfl, h3⟩
    have H3 := Lib.hid h3
    clear h3
    go_wp2
    refine wp_region_held_drew (S := fun _ => True) (by kernel_rfl) trivial (fun _ => ?_)
    refine take_at 0 (some 13) (.pointer (some ⟨r, 0, none⟩)) rfl rfl (by kernel_rfl) (by kernel_rfl) (by kernel_rfl) (fun _ _ _ h => h) (.inl ⟨by rfl, fun w' hS => ?_⟩) trivial ?_
    · go_simp
    try simp only [Act.put, List.setIfInBounds_toArray, List.set_cons_zero, List.set_cons_succ]
    refine take_at 2 (some 15) (.int .i64 m) rfl rfl (by kernel_rfl) (by kernel_rfl) (by kernel_rfl) (fun _ _ _ h => h) (.inl ⟨by rfl, fun w' hS => ?_⟩) trivial ?_
    · go_simp
    try simp only [Act.put, List.setIfInBounds_toArray, List.set_cons_zero, List.set_cons_succ]
    refine wpAnyH_all (rs := [1, 3]) (by kernel_rfl) (by simp) ?_
    intro ix hix
    have hor : ix = 1 ∨ ix = 3 := by simpa using hix
    clear hix
    rcases hor with rfl | rfl
    · refine call_atG (some 14) rfl rfl rfl 13 #[.int .i64 1] ?_ ?_
      · go_simp
      refine (key_any _ 1 (by omega)).mono ?_
      rintro e w7 ⟨rfl, hk7⟩
      refine ⟨_, rfl, trivial, ?_⟩
      try simp only [Act.put, List.setIfInBounds_toArray, List.set_cons_zero, List.set_cons_succ]
      refine wpAnyH_all (rs := [3]) (by kernel_rfl) (by simp) ?_
      intro i3 hi3
      obtain rfl : i3 = 3 := by simpa using hi3
      refine run_at (w' := w7.alloc (.cells (bytesV (List.replicate m 0)).toArray 5)) (some 16) (.slice (some ⟨w7.heap.size, 0, none⟩) m m) rfl rfl rfl (run_makeOp (n := m) (by omega) (.tmp 15) (.tmp 15) rfl rfl rfl) ?_
      refine ⟨trivial, ?_⟩
      try simp only [Act.put, List.setIfInBounds_toArray, List.set_cons_zero, List.set_cons_succ]
      have HX := Lib.hid ((H3.out.below ((Keeps.drew _ _).trans hk7)).below (Keeps.alloc _ _ (.cells (bytesV (List.replicate m 0)).toArray 5)))
      have HZX := Lib.hid (slr_zeros (Blk.new w7 (bytesV (List.replicate m 0)) 5))
      clear hk7
      refine wpAnyH_all (rs := [4]) (by kernel_rfl) (by simp) ?_
      intro i4 hi4
      obtain rfl : i4 = 4 := by simpa using hi4
      refine call_atG (some 17) rfl rfl rfl 12 #[.pointer (some ⟨r, 0, none⟩), .agg (keyR 1).toArray, .slice (some ⟨w7.heap.size, 0, none⟩) m m] ?_ ?_
      · go_simp
      refine (put_easy HX.out hlim0 (by simp) (by simp) (by omega) (fun p hp => by cases hp) 1 _ (List.replicate m 0) HZX.out (by simp; omega) ⟨none, false, 0, [], []⟩ rfl (by simp) (by simp) (by simp; omega)).mono ?_
      rintro e w9 ⟨rfl, ro9, e9, h9, -⟩
      have h9' : St w ro9 w9 r n0 (0 + ((List.replicate m 0).length + 64)) [(e9, putIt 1 (List.replicate m 0) none)] [] := h9
      rw [List.length_replicate, Nat.zero_add] at h9'
      have H9 := Lib.hid h9'
      refine ⟨_, rfl, trivial, ?_⟩
      try simp only [Act.put, List.setIfInBounds_toArray, List.set_cons_zero, List.set_cons_succ]
      refine take_at 5 (some 6) (.bool true) rfl rfl (by kernel_rfl) (by kernel_rfl) (by kernel_rfl) (fun _ _ _ h => h) (.inl ⟨by rfl, fun w' hS => ?_⟩) trivial ?_
      · go_simp
      try simp only [Act.put, List.setIfInBounds_toArray, List.set_cons_zero, List.set_cons_succ]
      refine wpAnyH_done (by kernel_rfl) ?_ _
      clear h9 h9' HX HZX H3
      have b1 : ((m : Int) + 64 ≤ (n0 : Int)) := by omega

      go_wp2_with fail
      refine (Used_any H9.out.ram).mono ?_
      rintro e w10 ⟨rfl, hk10⟩
      have H10 := Lib.hid (H9.out.below hk10)
      clear hk10
      go_wp2_with fail
      refine (key_any w10 1 (by omega)).mono ?_
      rintro e w11 ⟨rfl, hk11⟩
      have H11 := Lib.hid (H10.out.below hk11)
      clear hk11
      go_wp2_with fail
      refine (Hits_any H11.out.ram (by simp) (by simp) 1 1 rfl).mono ?_
      rintro e w12 ⟨rfl, hk12⟩
      have H12 := Lib.hid (H11.out.below hk12)
      clear hk12
      go_wp2
      go_ret
      exact ⟨rfl, H12.out.kept⟩
    · refine run_at (w' := w3.drew.alloc (.cells (bytesV (List.replicate m 0)).toArray 5)) (some 16) (.slice (some ⟨w3.drew.heap.size, 0, none⟩) m m) rfl rfl rfl (run_makeOp (n := m) (by omega) (.tmp 15) (.tmp 15) rfl rfl rfl) ?_
      refine ⟨trivial, ?_⟩
      try simp only [Act.put, List.setIfInBounds_toArray, List.set_cons_zero, List.set_cons_succ]
      refine wpAnyH_all (rs := [1]) (by kernel_rfl) (by simp) ?_
      intro i1 hi1
      obtain rfl : i1 = 1 := by simpa using hi1
      refine call_atG (some 14) rfl rfl rfl 13 #[.int .i64 1] ?_ ?_
      · go_simp
      refine (key_any _ 1 (by omega)).mono ?_
      rintro e w7 ⟨rfl, hk7⟩
      refine ⟨_, rfl, trivial, ?_⟩
      try simp only [Act.put, List.setIfInBounds_toArray, List.set_cons_zero, List.set_cons_succ]
      have HX := Lib.hid ((H3.out.below ((Keeps.drew _ _).trans (Keeps.alloc _ _ (.cells (bytesV (List.replicate m 0)).toArray 5)))).below hk7)
      have HZX := Lib.hid (slr_zeros ((Blk.new w3.drew (bytesV (List.replicate m 0)) 5).keeps hk7 id))
      clear hk7
      refine wpAnyH_all (rs := [4]) (by kernel_rfl) (by simp) ?_
      intro i4 hi4
      obtain rfl : i4 = 4 := by simpa using hi4
      refine call_atG (some 17) rfl rfl rfl 12 #[.pointer (some ⟨r, 0, none⟩), .agg (keyR 1).toArray, .slice (some ⟨w3.drew.heap.size, 0, none⟩) m m] ?_ ?_
      · go_simp
      refine (put_easy HX.out hlim0 (by simp) (by simp) (by omega) (fun p hp => by cases hp) 1 _ (List.replicate m 0) HZX.out (by simp; omega) ⟨none, false, 0, [], []⟩ rfl (by simp) (by simp) (by simp; omega)).mono ?_
      rintro e w9 ⟨rfl, ro9, e9, h9, -⟩
      have h9' : St w ro9 w9 r n0 (0 + ((List.replicate m 0).length + 64)) [(e9, putIt 1 (List.replicate m 0) none)] [] := h9
      rw [List.length_replicate, Nat.zero_add] at h9'
      have H9 := Lib.hid h9'
      refine ⟨_, rfl, trivial, ?_⟩
      try simp only [Act.put, List.setIfInBounds_toArray, List.set_cons_zero, List.set_cons_succ]
      refine take_at 5 (some 6) (.bool true) rfl rfl (by kernel_rfl) (by kernel_rfl) (by kernel_rfl) (fun _ _ _ h => h) (.inl ⟨by rfl, fun w' hS => ?_⟩) trivial ?_
      · go_simp
      try simp only [Act.put, List.setIfInBounds_toArray, List.set_cons_zero, List.set_cons_succ]
      refine wpAnyH_done (by kernel_rfl) ?_ _
      clear h9 h9' HX HZX H3
      have b1 : ((m : Int) + 64 ≤ (n0 : Int)) := by omega

      go_wp2_with fail
      refine (Used_any H9.out.ram).mono ?_
      rintro e w10 ⟨rfl, hk10⟩
      have H10 := Lib.hid (H9.out.below hk10)
      clear hk10
      go_wp2_with fail
      refine (key_any w10 1 (by omega)).mono ?_
      rintro e w11 ⟨rfl, hk11⟩
      have H11 := Lib.hid (H10.out.below hk11)
      clear hk11
      go_wp2_with fail
      refine (Hits_any H11.out.ram (by simp) (by simp) 1 1 rfl).mono ?_
      rintro e w12 ⟨rfl, hk12⟩
      have H12 := Lib.hid (H11.out.below hk12)
      clear hk12
      go_wp2
      go_ret
      exact ⟨rfl, H12.out.kept⟩
  · go_enter Try.func4, Try.ntmps4
    go_wp2_with fail
    refine HKN.out.mono ?_
    rintro e w1 ⟨rfl, hk1⟩
    have K1 := Lib.hid hk1
    clear hk1
    go_wp2_with fail
    refine (HPL.out w1).mono ?_
    rintro e w2 ⟨rfl, rfl⟩
    go_wp2_with fail
    refine (new_st w w2 K1.out lim n0 hn0).mono ?_
    rintro e w3 ⟨r, ro3, rfl, h3⟩
    have H3 := Lib.hid h3
    clear h3
    go_wp2
    refine wp_region_held_drew (S := fun _ => True) (by kernel_rfl) trivial (fun _ => ?_)
    refine take_at 0 (some 13) (.pointer (some ⟨r, 0, none⟩)) rfl rfl (by kernel_rfl) (by kernel_rfl) (by kernel_rfl) (fun _ _ _ h => h) (.inl ⟨by rfl, fun w' hS => ?_⟩) trivial ?_
    · go_simp
    try simp only [Act.put, List.setIfInBounds_toArray, List.set_cons_zero, List.set_cons_succ]
    refine take_at 2 (some 15) (.int .i64 m) rfl rfl (by kernel_rfl) (by kernel_rfl) (by kernel_rfl) (fun _ _ _ h => h) (.inl ⟨by rfl, fun w' hS => ?_⟩) trivial ?_
    · go_simp
    try simp only [Act.put, List.setIfInBounds_toArray, List.set_cons_zero, List.set_cons_succ]
    refine wpAnyH_all (rs := [1, 3]) (by kernel_rfl) (by simp) ?_
    intro ix hix
    have hor : ix = 1 ∨ ix = 3 := by simpa using hix
    clear hix
    rcases hor with rfl | rfl
    · refine call_atG (some 14) rfl rfl rfl 13 #[.int .i64 1] ?_ ?_
      · go_simp
      refine (key_any _ 1 (by omega)).mono ?_
      rintro e w7 ⟨rfl, hk7⟩
      refine ⟨_, rfl, trivial, ?_⟩
      try simp only [Act.put, List.setIfInBounds_toArray, List.set_cons_zero, List.set_cons_succ]
      refine wpAnyH_all (rs := [3]) (by kernel_rfl) (by simp) ?_
      intro i3 hi3
      obtain rfl : i3 = 3 := by simpa using hi3
      refine run_at (w' := w7.alloc (.cells (bytesV (List.replicate m 0)).toArray 5)) (some 16) (.slice (some ⟨w7.heap.size, 0, none⟩) m m) rfl rfl rfl (run_makeOp (n := m) (by omega) (.tmp 15) (.tmp 15) rfl rfl rfl) ?_
      refine ⟨trivial, ?_⟩
      try simp only [Act.put, List.setIfInBounds_toArray, List.set_cons_zero, List.set_cons_succ]
      have HX := Lib.hid ((H3.out.below ((Keeps.drew _ _).trans hk7)).below (Keeps.alloc _ _ (.cells (bytesV (List.replicate m 0)).toArray 5)))
      have HZX := Lib.hid (slr_zeros (Blk.new w7 (bytesV (List.replicate m 0)) 5))
      clear hk7
      refine wpAnyH_all (rs := [4]) (by kernel_rfl) (by simp) ?_
      intro i4 hi4
      obtain rfl : i4 = 4 := by simpa using hi4
      refine call_atG (some 17) rfl rfl rfl 12 #[.pointer (some ⟨r, 0, none⟩), .agg (keyR 1).toArray, .slice (some ⟨w7.heap.size, 0, none⟩) m m] ?_ ?_
      · go_simp
      refine (put_big HX.out (by simp) (by simp) (by omega) (fun p hp => by cases hp) 1 _ (List.replicate m 0) HZX.out (by simp; omega) ⟨none, false, 0, [], []⟩ rfl (by simp) (by simp) (by simp) (by simp; omega)).mono ?_
      rintro e w9 ⟨rfl, ro9, e9, h9, -⟩
      have h9' : St w ro9 w9 r n0 0 [] [(e9, oldI (putIt 1 (List.replicate m 0) none))] := h9
      have H9 := Lib.hid h9'
      refine ⟨_, rfl, trivial, ?_⟩
      try simp only [Act.put, List.setIfInBounds_toArray, List.set_cons_zero, List.set_cons_succ]
      refine take_at 5 (some 6) (.bool false) rfl rfl (by kernel_rfl) (by kernel_rfl) (by kernel_rfl) (fun _ _ _ h => h) (.inl ⟨by rfl, fun w' hS => ?_⟩) trivial ?_
      · go_simp
      try simp only [Act.put, List.setIfInBounds_toArray, List.set_cons_zero, List.set_cons_succ]
      refine wpAnyH_done (by kernel_rfl) ?_ _
      clear h9 h9' HX HZX H3
      have b1 : ¬ ((m : Int) + 64 ≤ (n0 : Int)) := by omega
      have b2 : ((0 : Int) == (m : Int) + 64) = false := beq_eq_false_iff_ne.2 (by omega)
      go_wp2_with fail
      refine (Used_any H9.out.ram).mono ?_
      rintro e w10 ⟨rfl, hk10⟩
      have H10 := Lib.hid (H9.out.below hk10)
      clear hk10
      go_wp2_with fail
      refine (key_any w10 1 (by omega)).mono ?_
      rintro e w11 ⟨rfl, hk11⟩
      have H11 := Lib.hid (H10.out.below hk11)
      clear hk11
      go_wp2_with fail
      refine (Hits_any H11.out.ram (by simp) (by simp) 1 1 rfl).mono ?_
      rintro e w12 ⟨rfl, hk12⟩
      have H12 := Lib.hid (H11.out.below hk12)
      clear hk12
      go_wp2
      go_ret
      exact ⟨rfl, H12.out.kept⟩
    · refine run_at (w' := w3.drew.alloc (.cells (bytesV (List.replicate m 0)).toArray 5)) (some 16) (.slice (some ⟨w3.drew.heap.size, 0, none⟩) m m) rfl rfl rfl (run_makeOp (n := m) (by omega) (.tmp 15) (.tmp 15) rfl rfl rfl) ?_
      refine ⟨trivial, ?_⟩
      try simp only [Act.put, List.setIfInBounds_toArray, List.set_cons_zero, List.set_cons_succ]
      refine wpAnyH_all (rs := [1]) (by kernel_rfl) (by simp) ?_
      intro i1 hi1
      obtain rfl : i1 = 1 := by simpa using hi1
      refine call_atG (some 14) rfl rfl rfl 13 #[.int .i64 1] ?_ ?_
      · go_simp
      refine (key_any _ 1 (by omega)).mono ?_
      rintro e w7 ⟨rfl, hk7⟩
      refine ⟨_, rfl, trivial, ?_⟩
      try simp only [Act.put, List.setIfInBounds_toArray, List.set_cons_zero, List.set_cons_succ]
      have HX := Lib.hid ((H3.out.below ((Keeps.drew _ _).trans (Keeps.alloc _ _ (.cells (bytesV (List.replicate m 0)).toArray 5)))).below hk7)
      have HZX := Lib.hid (slr_zeros ((Blk.new w3.drew (bytesV (List.replicate m 0)) 5).keeps hk7 id))
      clear hk7
      refine wpAnyH_all (rs := [4]) (by kernel_rfl) (by simp) ?_
      intro i4 hi4
      obtain rfl : i4 = 4 := by simpa using hi4
      refine call_atG (some 17) rfl rfl rfl 12 #[.pointer (some ⟨r, 0, none⟩), .agg (keyR 1).toArray, .slice (some ⟨w3.drew.heap.size, 0, none⟩) m m] ?_ ?_
      · go_simp
      refine (put_big HX.out (by simp) (by simp) (by omega) (fun p hp => by cases hp) 1 _ (List.replicate m 0) HZX.out (by simp; omega) ⟨none, false, 0, [], []⟩ rfl (by simp) (by simp) (by simp) (by simp; omega)).mono ?_
      rintro e w9 ⟨rfl, ro9, e9, h9, -⟩
      have h9' : St w ro9 w9 r n0 0 [] [(e9, oldI (putIt 1 (List.replicate m 0) none))] := h9
      have H9 := Lib.hid h9'
      refine ⟨_, rfl, trivial, ?_⟩
      try simp only [Act.put, List.setIfInBounds_toArray, List.set_cons_zero, List.set_cons_succ]
      refine take_at 5 (some 6) (.bool false) rfl rfl (by kernel_rfl) (by kernel_rfl) (by kernel_rfl) (fun _ _ _ h => h) (.inl ⟨by rfl, fun w' hS => ?_⟩) trivial ?_
      · go_simp
      try simp only [Act.put, List.setIfInBounds_toArray, List.set_cons_zero, List.set_cons_succ]
      refine wpAnyH_done (by kernel_rfl) ?_ _
      clear h9 h9' HX HZX H3
      have b1 : ¬ ((m : Int) + 64 ≤ (n0 : Int)) := by omega
      have b2 : ((0 : Int) == (m : Int) + 64) = false := beq_eq_false_iff_ne.2 (by omega)
      go_wp2_with fail
      refine (Used_any H9.out.ram).mono ?_
      rintro e w10 ⟨rfl, hk10⟩
      have H10 := Lib.hid (H9.out.below hk10)
      clear hk10
      go_wp2_with fail
      refine (key_any w10 1 (by omega)).mono ?_
      rintro e w11 ⟨rfl, hk11⟩
      have H11 := Lib.hid (H10.out.below hk11)
      clear hk11
      go_wp2_with fail
      refine (Hits_any H11.out.ram (by simp) (by simp) 1 1 rfl).mono ?_
      rintro e w12 ⟨rfl, hk12⟩
      have H12 := Lib.hid (H11.out.below hk12)
      clear hk12
      go_wp2
      go_ret
      exact ⟨rfl, H12.out.kept⟩

end Go.Proofs.Ytpiijfknpliahaa
