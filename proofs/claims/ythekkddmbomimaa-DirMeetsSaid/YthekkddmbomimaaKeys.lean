/- The walk of DirKeys: any key has the document's bucket and tag. Conditions: the key reads as bytes. -/
import Derived.Test.YthekkddmbomimaaKnown
namespace Go.Proofs.Ythekkddmbomimaa
open Go.RowKit
set_option maxRecDepth 100000
attribute [local go_sem] Oper.semAt_some

theorem call_atG {P : Program} {ops : Array Oper} {Q : Exit → Act → World → Prop} (d : Option Tmp) {i : Nat} {o : Oper} {K : Act → World → Prop} {a : Act} {w : World} (ho : ops[i]? = some o) (hg : Region.wanted o (yielded ops a.tmps) = true) (hd : o.dst = d) (f : FuncId) (args : Array Value) (hrun : (execOp a.eval o).run P w = .ok (.enter f args) w)
    (h : Calls P f args w fun e w'' => ∃ v, e = .returned v ∧ K (a.put d v) w'') : wpOp P ops Q i K a w := by
  subst hd
  unfold wpOp
  rw [ho]
  simp only [hg, if_true]
  refine .inl ?_
  unfold Oper.wp
  rw [hrun, Oper.upon_enter]
  exact h.mono fun e w'' ⟨v, he, hk⟩ => by subst he; exact hk

def placeN (k : Int) (n : Nat) : Nat := if k.tmod n < 0 then (k.tmod n + n).toNat else (k.tmod n).toNat
theorem tmod_bounds (k : Int) (n : Nat) (hn : 1 ≤ n) : -(n : Int) < k.tmod n ∧ k.tmod n < n := by
  rcases Int.le_total 0 k with h | h
  · rw [Int.tmod_eq_emod_of_nonneg h]
    have h1 := Int.emod_nonneg k (show (n : Int) ≠ 0 by omega)
    have h2 := Int.emod_lt_of_pos k (show (0 : Int) < n by omega)
    omega
  · have e : k.tmod n = -((-k).tmod n) := by rw [Int.neg_tmod]; omega
    rw [e, Int.tmod_eq_emod_of_nonneg (by omega)]
    have h1 := Int.emod_nonneg (-k) (show (n : Int) ≠ 0 by omega)
    have h2 := Int.emod_lt_of_pos (-k) (show (0 : Int) < n by omega)
    omega
theorem placeN_lt (k : Int) (n : Nat) (hn : 1 ≤ n) : placeN k n < n := by
  have := tmod_bounds k n hn
  unfold placeN; split <;> omega
theorem Place_any (w : World) (k : Int) (n : Nat) (hn : 1 ≤ n) (hn2 : n < 4611686018427387904) :
    Calls Try.prog 10 #[.int .i64 k, .int .i64 n] w fun e w' => e = .returned (.int .i64 (placeN k n)) ∧ w' = w := by
  obtain ⟨h1, h2⟩ := tmod_bounds k n hn
  have e0 : ¬ n = 0 := by omega
  have e1 : IntKind.i64.wrap (k.tmod n) = k.tmod n := by rw [IntKind.wrap_i64]; omega
  obtain ⟨r, hr⟩ : ∃ r, k.tmod n = r := ⟨_, rfl⟩
  have hp : ((placeN k n : Nat) : Int) = if r < 0 then r + n else r := by
    unfold placeN; rw [hr]; split <;> omega
  rw [hr] at e1 h1 h2
  have e2 : IntKind.i64.wrap (r + n) = r + n := by rw [IntKind.wrap_i64]; omega
  have HP := Lib.hid hp
  clear hp
  by_cases hneg : r < 0
  · go_enter Try.func10, Try.ntmps10
    go_wp2
    go_ret
    refine ⟨?_, rfl⟩
    rw [HP.out, if_pos hneg]; rfl
  · have hneg2 : 0 ≤ r := by omega
    go_enter Try.func10, Try.ntmps10
    go_wp2
    go_ret
    refine ⟨?_, rfl⟩
    rw [HP.out, if_neg (by omega)]; rfl

set_option maxHeartbeats 2000000 in
theorem DirKeys_any {ks : List Value} {n t : Nat} (hk : IsKey ks n t) (b : Int) (w : World) : Calls Try.prog 3 #[.agg ks.toArray, .int .i64 b] w fun e w' => e = .returned (.bool true) ∧ Keeps (fun _ => False) w w' := by
  have HS := Lib.hid (size23k hk)
  have hb0 : Blk (w.alloc (.cells ks.toArray 23)) w.heap.size ks 23 := Blk.new w ks 23
  have HB0 := Lib.hid hb0
  clear hb0
  have hkn := Lib.hid (known_any (w.alloc (.cells ks.toArray 23)))
  go_enter Try.func3, Try.ntmps3
  go_wp2_with fail
  refine hkn.out.mono ?_
  rintro e w1 ⟨rfl, hK1⟩
  have HB1 := Lib.hid (HB0.out.keeps hK1 id)
  have KW1 : Hid (Keeps (fun _ => False) w w1) := Lib.hid ((Keeps.alloc _ _ _).trans hK1)
  clear hK1
  go_wp2_with fail
  refine (Place_any w1 b 5000 (by omega) (by omega)).mono ?_
  rintro e w2 ⟨rfl, rfl⟩
  generalize placeN b 5000 = m at *
  go_wp2_with fail
  have hs0 : Blk w2.drew w.heap.size ks 23 := HB1.out
  refine wp_region_held_drew (S := fun w' => Blk w' w.heap.size ks 23) (by kernel_rfl) hs0 (fun _ => ?_)
  refine take_at 0 (some 9) (.agg ks.toArray) rfl rfl (by kernel_rfl) (by kernel_rfl) (by kernel_rfl) (fun _ _ _ h => h) (.inl ⟨by rfl, fun w' hS => ?_⟩) hs0 ?_
  · exact run_load_blk hS 23 _ Try.underlying23 rfl HS.out _ _ (.tmp 2) rfl rfl
  try simp only [Act.put, List.setIfInBounds_toArray, List.set_cons_zero, List.set_cons_succ]
  refine take_at 2 (some 11) (.agg ks.toArray) rfl rfl (by kernel_rfl) (by kernel_rfl) (by kernel_rfl) (fun _ _ _ h => h) (.inl ⟨by rfl, fun w' hS => ?_⟩) hs0 ?_
  · exact run_load_blk hS 23 _ Try.underlying23 rfl HS.out _ _ (.tmp 2) rfl rfl
  try simp only [Act.put, List.setIfInBounds_toArray, List.set_cons_zero, List.set_cons_succ]
  refine wpAnyH_all (rs := [1]) (by kernel_rfl) (by simp) ?_
  intro i1 hi1
  obtain rfl : i1 = 1 := by simpa using hi1
  refine call_atG (some 10) rfl rfl rfl 11 #[.agg ks.toArray] ?_ ?_
  · go_simp
  refine (Tag_any hk _).mono ?_
  rintro e w3 ⟨rfl, hb3⟩
  have hs3 : Blk w3 w.heap.size ks 23 := hs0.below' hb3
  refine ⟨_, rfl, hs3, ?_⟩
  try simp only [Act.put, List.setIfInBounds_toArray, List.set_cons_zero, List.set_cons_succ]
  refine wpAnyH_all (rs := [3]) (by kernel_rfl) (by simp) ?_
  intro i3 hi3
  obtain rfl : i3 = 3 := by simpa using hi3
  refine call_atG (some 12) rfl rfl rfl 12 #[.agg ks.toArray] ?_ ?_
  · go_simp
  refine (Tag_ref hk _).mono ?_
  rintro e w4 ⟨rfl, hb4⟩
  have hs4 : Blk w4 w.heap.size ks 23 := hs3.below' hb4
  refine ⟨_, rfl, hs4, ?_⟩
  try simp only [Act.put, List.setIfInBounds_toArray, List.set_cons_zero, List.set_cons_succ]
  refine take_at 4 (some 13) (.bool true) rfl rfl (by kernel_rfl) (by kernel_rfl) (by kernel_rfl) (fun _ _ _ h => h) (.inl ⟨by rfl, fun w' hS => ?_⟩) hs4 ?_
  · go_simp
  try simp only [Act.put, List.setIfInBounds_toArray, List.set_cons_zero, List.set_cons_succ]
  refine take_at 5 (some 14) (.bool true) rfl rfl (by kernel_rfl) (by kernel_rfl) (by kernel_rfl) (fun _ _ _ h => h) (.inl ⟨by rfl, fun w' hS => ?_⟩) hs4 ?_
  · go_simp
  try simp only [Act.put, List.setIfInBounds_toArray, List.set_cons_zero, List.set_cons_succ]
  refine take_at 6 (some 15) (.int .i64 m) rfl rfl (by kernel_rfl) (by kernel_rfl) (by kernel_rfl) (fun _ _ _ h => h) (.inl ⟨by rfl, fun w' hS => ?_⟩) hs4 ?_
  · go_simp
  try simp only [Act.put, List.setIfInBounds_toArray, List.set_cons_zero, List.set_cons_succ]
  refine take_at 8 (some 17) (.agg ks.toArray) rfl rfl (by kernel_rfl) (by kernel_rfl) (by kernel_rfl) (fun _ _ _ h => h) (.inl ⟨by rfl, fun w' hS => ?_⟩) hs4 ?_
  · exact run_load_blk hS 23 _ Try.underlying23 rfl HS.out _ _ (.tmp 2) rfl rfl
  try simp only [Act.put, List.setIfInBounds_toArray, List.set_cons_zero, List.set_cons_succ]
  refine take_at 10 (some 19) (.int .i64 m) rfl rfl (by kernel_rfl) (by kernel_rfl) (by kernel_rfl) (fun _ _ _ h => h) (.inl ⟨by rfl, fun w' hS => ?_⟩) hs4 ?_
  · go_simp
  try simp only [Act.put, List.setIfInBounds_toArray, List.set_cons_zero, List.set_cons_succ]
  refine take_at 12 (some 21) (.agg ks.toArray) rfl rfl (by kernel_rfl) (by kernel_rfl) (by kernel_rfl) (fun _ _ _ h => h) (.inl ⟨by rfl, fun w' hS => ?_⟩) hs4 ?_
  · exact run_load_blk hS 23 _ Try.underlying23 rfl HS.out _ _ (.tmp 2) rfl rfl
  try simp only [Act.put, List.setIfInBounds_toArray, List.set_cons_zero, List.set_cons_succ]
  refine wpAnyH_all (rs := [7]) (by kernel_rfl) (by simp) ?_
  intro i7 hi7
  obtain rfl : i7 = 7 := by simpa using hi7
  refine call_atG (some 16) rfl rfl rfl 13 #[.int .i64 m, .int .i64 1] ?_ ?_
  · go_simp
  refine (New_any w4 m 1).mono ?_
  rintro e w5 ⟨p, pl, pn, rfl, hD5, -, -, -, hb5⟩
  have hs5 : Blk w5 w.heap.size ks 23 := hs4.below' hb5
  refine ⟨_, rfl, hs5, ?_⟩
  try simp only [Act.put, List.setIfInBounds_toArray, List.set_cons_zero, List.set_cons_succ]
  refine wpAnyH_all (rs := [9]) (by kernel_rfl) (by simp) ?_
  intro i9 hi9
  obtain rfl : i9 = 9 := by simpa using hi9
  refine call_atG (some 18) rfl rfl rfl 14 #[.pointer (some ⟨p, 0, none⟩), .agg ks.toArray] ?_ ?_
  · go_simp
  refine (Bucket_any hk w5 p _ _ _ hD5.lts.1 hD5.b1 hD5.b4 (hD5.head.cell rfl)).mono ?_
  rintro e w6 ⟨rfl, hb6⟩
  have hs6 : Blk w6 w.heap.size ks 23 := hs5.below' hb6
  refine ⟨_, rfl, hs6, ?_⟩
  try simp only [Act.put, List.setIfInBounds_toArray, List.set_cons_zero, List.set_cons_succ]
  refine wpAnyH_all (rs := [11]) (by kernel_rfl) (by simp) ?_
  intro i11 hi11
  obtain rfl : i11 = 11 := by simpa using hi11
  refine call_atG (some 20) rfl rfl rfl 15 #[.int .i64 m, .int .i64 1] ?_ ?_
  · go_simp
  refine (New_ref (fun _ => True) w6 (fun _ _ => trivial) m 1).mono ?_
  rintro e w7 ⟨q, ql, rfl, hR7, hb7⟩
  have hs7 : Blk w7 w.heap.size ks 23 := hs6.below' hb7
  refine ⟨_, rfl, hs7, ?_⟩
  try simp only [Act.put, List.setIfInBounds_toArray, List.set_cons_zero, List.set_cons_succ]
  refine wpAnyH_all (rs := [13]) (by kernel_rfl) (by simp) ?_
  intro i13 hi13
  obtain rfl : i13 = 13 := by simpa using hi13
  refine call_atG (some 22) rfl rfl rfl 16 #[.pointer (some ⟨q, 0, none⟩), .agg ks.toArray] ?_ ?_
  · go_simp
  refine (Bucket_ref hk w7 q _ _ _ hR7.lts.1 hR7.b1 hR7.b4 (hR7.head.cell rfl)).mono ?_
  rintro e w8 ⟨rfl, hb8⟩
  have hs8 : Blk w8 w.heap.size ks 23 := hs7.below' hb8
  refine ⟨_, rfl, hs8, ?_⟩
  try simp only [Act.put, List.setIfInBounds_toArray, List.set_cons_zero, List.set_cons_succ]
  refine take_at 14 (some 23) (.bool true) rfl rfl (by kernel_rfl) (by kernel_rfl) (by kernel_rfl) (fun _ _ _ h => h) (.inl ⟨by rfl, fun w' hS => ?_⟩) hs8 ?_
  · go_simp
  try simp only [Act.put, List.setIfInBounds_toArray, List.set_cons_zero, List.set_cons_succ]
  refine take_at 15 (some 24) (.bool true) rfl rfl (by kernel_rfl) (by kernel_rfl) (by kernel_rfl) (fun _ _ _ h => h) (.inl ⟨by rfl, fun w' hS => ?_⟩) hs8 ?_
  · go_simp
  try simp only [Act.put, List.setIfInBounds_toArray, List.set_cons_zero, List.set_cons_succ]
  refine take_at 16 (some 4) (.bool true) rfl rfl (by kernel_rfl) (by kernel_rfl) (by kernel_rfl) (fun _ _ _ h => h) (.inl ⟨by rfl, fun w' hS => ?_⟩) hs8 ?_
  · go_simp
  try simp only [Act.put, List.setIfInBounds_toArray, List.set_cons_zero, List.set_cons_succ]
  refine wpAnyH_done (by kernel_rfl) ?_ _
  have hfin : Keeps (fun _ => False) w w8 := KW1.out.trans ((Keeps.drew _ _).trans ((Keeps.ofBelow hb3).trans ((Keeps.ofBelow hb4).trans ((Keeps.ofBelow hb5).trans ((Keeps.ofBelow hb6).trans ((Keeps.ofBelow hb7).trans (Keeps.ofBelow hb8)))))))
  have HF := Lib.hid hfin
  clear hfin hb3 hb4 hb5 hb6 hb7 hb8 hs0 hs3 hs4 hs5 hs6 hs7 hs8 hD5 hR7 HB0 HB1
  go_wp2
  go_ret
  exact ⟨rfl, HF.out⟩
end Go.Proofs.Ythekkddmbomimaa
