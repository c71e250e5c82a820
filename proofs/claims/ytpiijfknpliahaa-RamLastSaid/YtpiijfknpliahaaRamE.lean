/- The contract of take: an entry is taken out of a list by its key. Conditions: the list's header lies in a block that is known; its slice owns its array; its entries lie in memory. -/
import Derived.Test.YtpiijfknpliahaaRamD
namespace Go.Proofs.Ytpiijfknpliahaa
open Go.RowKit
set_option maxRecDepth 100000
attribute [local go_sem] Oper.semAt_some

theorem eraseIdx_eq {α : Type} (E : List α) (i : Nat) : E.take i ++ E.drop (i + 1) = E.eraseIdx i := (List.eraseIdx_eq_take_drop_succ E i).symm

set_option maxHeartbeats 1000000 in
theorem take_none (w : World) (r o : Nat) (hs : List Value) (hh : Blk w r hs 56) (v : Value) (hv : hs[o]? = some v) (E : Ents) (hsl : SlO w v 57 1 E.length (cellsP E)) (hE : ∀ p ∈ E, EntAt w p) (hn : E.length ≤ 1073741824) (k : Nat) (hf : firstAt (hasK k) E = none) :
    Calls Try.prog 43 #[.pointer (some ⟨r, o, none⟩), .agg (keyR k).toArray] w fun e w' => e = .returned (.pointer none) ∧ Keeps (fun _ => False) w w' := by
  have hk1 : Keeps (fun _ => False) w (w.alloc (.cells (keyR k).toArray 30)) := Keeps.alloc _ _ _
  have HB := Lib.hid (Blk.new w (keyR k) 30)
  have HV := Lib.hid hv
  have HH := Lib.hid (hh.keeps hk1 id)
  have HE := Lib.hid (fun p hp => (hE p hp).below hk1)
  have HS := Lib.hid (hsl.slr.below (Below.alloc1 _ (.cells (keyR k).toArray 30)))
  have HF := Lib.hid hf
  have HK := Lib.hid hk1
  clear hv hh hE hsl hf hk1
  go_enter Try.func43, Try.ntmps43
  go_wp2
  have hS0 : Keeps (fun _ => False) (w.alloc (.cells (keyR k).toArray 30)) (w.alloc (.cells (keyR k).toArray 30)).drew := Keeps.drew _ _
  refine wp_region_held_drew (S := fun w' => Keeps (fun _ => False) (w.alloc (.cells (keyR k).toArray 30)) w') (by kernel_rfl) hS0 (fun _ => ?_)
  refine take_at 0 (some 7) (.pointer (some ⟨r, o, none⟩)) rfl rfl (by kernel_rfl) (by kernel_rfl) (by kernel_rfl) (fun _ _ _ h => h) (.inl ⟨by rfl, fun w' hS => ?_⟩) hS0 ?_
  · go_simp
  try simp only [Act.put, List.setIfInBounds_toArray, List.set_cons_zero, List.set_cons_succ]
  refine take_at 1 (some 8) (.pointer (some ⟨r, o, none⟩)) rfl rfl (by kernel_rfl) (by kernel_rfl) (by kernel_rfl) (fun _ _ _ h => h) (.inl ⟨by rfl, fun w' hS => ?_⟩) hS0 ?_
  · go_simp
  try simp only [Act.put, List.setIfInBounds_toArray, List.set_cons_zero, List.set_cons_succ]
  refine take_at 2 (some 9) (v) rfl rfl (by kernel_rfl) (by kernel_rfl) (by kernel_rfl) (fun _ _ _ h => h) (.inl ⟨by rfl, fun w' hS => ?_⟩) hS0 ?_
  · have := (HH.out.keeps hS id).cell HV.out
    go_simp
  try simp only [Act.put, List.setIfInBounds_toArray, List.set_cons_zero, List.set_cons_succ]
  refine take_at 3 (some 10) (.agg (keyR k).toArray) rfl rfl (by kernel_rfl) (by kernel_rfl) (by kernel_rfl) (fun _ _ _ h => h) (.inl ⟨by rfl, fun w' hS => ?_⟩) hS0 ?_
  · exact run_load_part ((HB.out.keeps hS id).part 0 (keyR k) (by simp [keyR])) 30 _ Try.underlying30 rfl (sizeKey _) _ _ (.tmp 3) rfl rfl
  try simp only [Act.put, List.setIfInBounds_toArray, List.set_cons_zero, List.set_cons_succ]
  refine wpAnyH_all (rs := [4]) (by kernel_rfl) (by simp) ?_
  intro i4 hi4
  obtain rfl : i4 = 4 := by simpa using hi4
  refine call_atG (some 11) rfl rfl rfl 44 #[v, .agg (keyR k).toArray] ?_ ?_
  · go_simp
  refine (at_any _ k v E (HS.out.keeps hS0 (fun _ _ _ _ _ _ h => h)) (fun p hp => (HE.out p hp).below hS0) hn).mono ?_
  rintro e w4 ⟨rfl, hk4⟩
  rw [HF.out]
  have hS4 : Keeps (fun _ => False) (w.alloc (.cells (keyR k).toArray 30)) w4 := hS0.trans hk4
  clear hk4
  refine ⟨_, rfl, hS4, ?_⟩
  try simp only [Act.put, List.setIfInBounds_toArray, List.set_cons_zero, List.set_cons_succ]
  refine take_at 5 (some 5) (.int .i64 (-1)) rfl rfl (by kernel_rfl) (by kernel_rfl) (by kernel_rfl) (fun _ _ _ h => h) (.inl ⟨by rfl, fun w' hS => ?_⟩) hS4 ?_
  · go_simp
    rfl
  try simp only [Act.put, List.setIfInBounds_toArray, List.set_cons_zero, List.set_cons_succ]
  refine wpAnyH_done (by kernel_rfl) ?_ _
  have S4 := Lib.hid hS4
  clear hS4 hS0
  go_wp2
  go_ret
  exact ⟨rfl, HK.out.trans S4.out⟩

set_option maxHeartbeats 2000000 in
theorem take_some (w : World) (r o : Nat) (hs : List Value) (hh : Blk w r hs 56) (v : Value) (hv : hs[o]? = some v) (E : Ents) (hsl : SlO w v 57 1 E.length (cellsP E)) (hE : ∀ p ∈ E, EntAt w p) (hn : E.length ≤ 1073741824) (hne : ∀ g, blkOf v = some g → g ≠ r) (k i : Nat) (p : Nat × It) (hf : firstAt (hasK k) E = some i) (hp : E[i]? = some p) :
    Calls Try.prog 43 #[.pointer (some ⟨r, o, none⟩), .agg (keyR k).toArray] w fun e w' => ∃ v', e = .returned (.pointer (some ⟨p.1, 0, none⟩)) ∧ Blk w' r (hs.set o v') 56 ∧ SlO w' v' 57 1 (E.eraseIdx i).length (cellsP (E.eraseIdx i)) ∧ blkOf v' = blkOf v ∧
      Keeps (fun b => b = r ∨ blkOf v = some b) w w' := by
  have hk1 : Keeps (fun _ => False) w (w.alloc (.cells (keyR k).toArray 30)) := Keeps.alloc _ _ _
  have HB := Lib.hid (Blk.new w (keyR k) 30)
  have HV := Lib.hid hv
  have HH := Lib.hid (hh.keeps hk1 id)
  have HE := Lib.hid (fun p hp => (hE p hp).below hk1)
  have HS := Lib.hid (hsl.slr.below (Below.alloc1 _ (.cells (keyR k).toArray 30)))
  have HSO := Lib.hid (hsl.below (Below.alloc1 _ (.cells (keyR k).toArray 30)))
  have HF := Lib.hid hf
  have HK := Lib.hid hk1
  have HP := Lib.hid hp
  have HNE := Lib.hid hne
  have hil : i < E.length := (List.getElem?_eq_some_iff.1 hp).1
  have a1 : ¬ (i : Int) < 0 := by omega
  have a2 : (i : Int) < E.length := by omega
  have a3 : (0 : Int) ≤ i := by omega
  have a4 : IntKind.i64.wrap ((i : Int) + 1) = ((i + 1 : Nat) : Int) := by rw [IntKind.wrap_i64]; omega
  clear hv hh hE hsl hf hk1 hp hne
  go_enter Try.func43, Try.ntmps43
  go_wp2
  have hS0 : Keeps (fun _ => False) (w.alloc (.cells (keyR k).toArray 30)) (w.alloc (.cells (keyR k).toArray 30)).drew := Keeps.drew _ _
  refine wp_region_held_drew (S := fun w' => Keeps (fun _ => False) (w.alloc (.cells (keyR k).toArray 30)) w') (by kernel_rfl) hS0 (fun _ => ?_)
  refine take_at 0 (some 7) (.pointer (some ⟨r, o, none⟩)) rfl rfl (by kernel_rfl) (by kernel_rfl) (by kernel_rfl) (fun _ _ _ h => h) (.inl ⟨by rfl, fun w' hS => ?_⟩) hS0 ?_
  · go_simp
  try simp only [Act.put, List.setIfInBounds_toArray, List.set_cons_zero, List.set_cons_succ]
  refine take_at 1 (some 8) (.pointer (some ⟨r, o, none⟩)) rfl rfl (by kernel_rfl) (by kernel_rfl) (by kernel_rfl) (fun _ _ _ h => h) (.inl ⟨by rfl, fun w' hS => ?_⟩) hS0 ?_
  · go_simp
  try simp only [Act.put, List.setIfInBounds_toArray, List.set_cons_zero, List.set_cons_succ]
  refine take_at 2 (some 9) (v) rfl rfl (by kernel_rfl) (by kernel_rfl) (by kernel_rfl) (fun _ _ _ h => h) (.inl ⟨by rfl, fun w' hS => ?_⟩) hS0 ?_
  · have := (HH.out.keeps hS id).cell HV.out
    go_simp
  try simp only [Act.put, List.setIfInBounds_toArray, List.set_cons_zero, List.set_cons_succ]
  refine take_at 3 (some 10) (.agg (keyR k).toArray) rfl rfl (by kernel_rfl) (by kernel_rfl) (by kernel_rfl) (fun _ _ _ h => h) (.inl ⟨by rfl, fun w' hS => ?_⟩) hS0 ?_
  · exact run_load_part ((HB.out.keeps hS id).part 0 (keyR k) (by simp [keyR])) 30 _ Try.underlying30 rfl (sizeKey _) _ _ (.tmp 3) rfl rfl
  try simp only [Act.put, List.setIfInBounds_toArray, List.set_cons_zero, List.set_cons_succ]
  refine wpAnyH_all (rs := [4]) (by kernel_rfl) (by simp) ?_
  intro i4 hi4
  obtain rfl : i4 = 4 := by simpa using hi4
  refine call_atG (some 11) rfl rfl rfl 44 #[v, .agg (keyR k).toArray] ?_ ?_
  · go_simp
  refine (at_any _ k v E (HS.out.keeps hS0 (fun _ _ _ _ _ _ h => h)) (fun p hp => (HE.out p hp).below hS0) hn).mono ?_
  rintro e w4 ⟨rfl, hk4⟩
  rw [HF.out]
  have hS4 : Keeps (fun _ => False) (w.alloc (.cells (keyR k).toArray 30)) w4 := hS0.trans hk4
  clear hk4
  refine ⟨_, rfl, hS4, ?_⟩
  try simp only [Act.put, List.setIfInBounds_toArray, List.set_cons_zero, List.set_cons_succ]
  refine take_at 5 (some 5) (.int .i64 i) rfl rfl (by kernel_rfl) (by kernel_rfl) (by kernel_rfl) (fun _ _ _ h => h) (.inl ⟨by rfl, fun w' hS => ?_⟩) hS4 ?_
  · go_simp
    rfl
  try simp only [Act.put, List.setIfInBounds_toArray, List.set_cons_zero, List.set_cons_succ]
  refine wpAnyH_done (by kernel_rfl) ?_ _
  obtain ⟨ga, c, rfl, hnc⟩ := HSO.out.form
  have hsr := HSO.out.slr.keeps hS4 (fun _ _ _ _ _ _ h => h)
  obtain ⟨_, ga', c', he', h0⟩ := hsr
  cases he'
  rcases h0 with h0 | ⟨gb, off, rfl, hgl, hgc⟩
  · omega
  have c1 := hgc i _ (cellsP_get HP.out)
  have c2 := (HH.out.keeps hS4 id).cell HV.out
  have hdel := Delete_some w4 _ E i (i + 1) (HSO.out.keeps hS4 (fun _ _ h => h)) (by omega) (by omega) hn
  rw [eraseIdx_eq] at hdel
  have hnr : gb ≠ r := HNE.out gb (by cases c with
    | zero => omega
    | succ c => rfl)
  have HDEL := Lib.hid hdel
  have S4 := Lib.hid hS4
  have hbk : blkOf (.slice (some ⟨gb, off, none⟩) E.length c) = some gb := by
    cases c with
    | zero => omega
    | succ c => rfl
  clear hdel hS4 hS0 hgc
  go_wp2_with fail
  refine HDEL.out.mono ?_
  rintro e w5 ⟨v', rfl, hso, hk5, hb5⟩
  have hH5 : Blk w5 r hs 56 := (HH.out.keeps S4.out id).keeps hk5 (fun e => by rw [hbk] at e; exact hnr (Option.some.inj e))
  obtain ⟨u, hu⟩ : ∃ u, hs[o]? = some u := ⟨_, HV.out⟩
  have c3 := hH5.cell hu
  have f3 := hH5.frozen o
  have hH6 := hH5.setCell o v'
  have hk6 : Keeps (fun b => b = r) w5 (w5.setCell ⟨r, o, none⟩ v') := Keeps.setCell _ _ _ (fun _ => rfl)
  have hso6 := hso.keeps hk6 (fun b hb e => by rw [hb5, hbk] at hb; exact hnr ((Option.some.inj hb).trans e))
  have hkf : Keeps (fun b => b = r ∨ blkOf (.slice (some ⟨gb, off, none⟩) E.length c) = some b) w (w5.setCell ⟨r, o, none⟩ v') :=
    (((HK.out.trans S4.out).mono (fun _ h => h.elim)).trans (hk5.mono (fun _ h => .inr h))).trans (hk6.mono (fun _ h => .inl h))
  have H6 := Lib.hid hH6
  have SO6 := Lib.hid hso6
  have KF := Lib.hid hkf
  have HB5 := Lib.hid hb5
  obtain ⟨va, vc, rfl, _⟩ := hso.form
  clear hH5 hH6 hso hso6 hk5 hk6 hkf hb5
  go_wp2
  go_ret
  exact ⟨_, rfl, H6.out, SO6.out, HB5.out, KF.out⟩
end Go.Proofs.Ytpiijfknpliahaa
