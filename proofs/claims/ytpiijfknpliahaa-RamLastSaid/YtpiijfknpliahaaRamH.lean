/- Contracts of out and forget. Conditions: the receiver is a memory. -/
import Derived.Test.YtpiijfknpliahaaRamG
namespace Go.Proofs.Ytpiijfknpliahaa
open Go.RowKit
set_option maxRecDepth 100000
attribute [local go_sem] Oper.semAt_some

variable {ro : Nat → Nat} {w w' : World} {r lim used : Nat} {L P X : Ents}
theorem perm_erase {α : Type} : ∀ {l : List α} {i : Nat} {p : α}, l[i]? = some p → (p :: l.eraseIdx i).Perm l
  | [], i, p, h => by simp at h
  | x :: l, 0, p, h => by
    obtain rfl : x = p := by simpa using h
    exact List.Perm.refl _
  | x :: l, i + 1, p, h => by
    have ih := perm_erase (l := l) (i := i) (p := p) (by simpa using h)
    exact (List.Perm.swap x p _).trans (ih.cons x)
theorem perm_takeL {i : Nat} {p : Nat × It} (hp : L[i]? = some p) : (L.eraseIdx i ++ P ++ p :: X).Perm (L ++ P ++ X) := by
  have h1 : (p :: L.eraseIdx i).Perm L := perm_erase hp
  have h2 : (L.eraseIdx i ++ P ++ p :: X).Perm (p :: (L.eraseIdx i ++ P ++ X)) := List.perm_middle
  refine h2.trans ?_
  have h3 : p :: (L.eraseIdx i ++ P ++ X) = (p :: L.eraseIdx i) ++ (P ++ X) := by simp
  rw [h3, List.append_assoc]
  exact List.Perm.append_right _ h1
theorem perm_takeP {i : Nat} {p : Nat × It} (hp : P[i]? = some p) : (L ++ P.eraseIdx i ++ p :: X).Perm (L ++ P ++ X) := by
  have h1 : (p :: P.eraseIdx i).Perm P := perm_erase hp
  rw [List.append_assoc, List.append_assoc]
  refine List.Perm.append_left _ ?_
  have h2 : (P.eraseIdx i ++ p :: X).Perm (p :: (P.eraseIdx i ++ X)) := List.perm_middle
  refine h2.trans ?_
  rw [← List.cons_append]
  exact List.Perm.append_right _ h1
theorem RamAt.takenL {vl vp v' : Value} {i : Nat} {p : Nat × It} (h : RamAt ro w r lim used L P X) (hd : RamHead ro w r lim used L P vl vp) (hp : L[i]? = some p)
    (hb : Blk w' r [.int .i64 lim, .int .i64 used, v', vp] 56) (hs : SlO w' v' 57 1 (L.eraseIdx i).length (cellsP (L.eraseIdx i))) (he : blkOf v' = blkOf vl) (k : Keeps (fun b => b = r ∨ blkOf vl = some b) w w') :
    RamAt ro w' r lim used (L.eraseIdx i) P (p :: X) ∧ Keeps (fun b => ro b ≠ 0) w w' := by
  have hS : ∀ b, (b = r ∨ blkOf vl = some b) → ro b = 1 ∨ ro b = 2 := fun b e => by
    rcases e with rfl | e
    · exact .inl h.rr
    · exact .inr (hd.rl b e)
  refine ⟨h.move k (fun b _ e => by have := hS b e; omega) (fun _ _ => rfl) (fun b hb => Nat.lt_of_lt_of_le (h.lt b hb) k.size) ⟨v', vp, hb, hs, hd.sp.keeps k (fun b hb e => by have := hS b e; have := hd.rp b hb; omega), fun g hg => hd.rl g (he ▸ hg), hd.rp⟩ (perm_takeL hp), k.mono (fun b e => by have := hS b e; omega)⟩
theorem RamAt.takenP {vl vp v' : Value} {i : Nat} {p : Nat × It} (h : RamAt ro w r lim used L P X) (hd : RamHead ro w r lim used L P vl vp) (hp : P[i]? = some p)
    (hb : Blk w' r [.int .i64 lim, .int .i64 used, vl, v'] 56) (hs : SlO w' v' 57 1 (P.eraseIdx i).length (cellsP (P.eraseIdx i))) (he : blkOf v' = blkOf vp) (k : Keeps (fun b => b = r ∨ blkOf vp = some b) w w') :
    RamAt ro w' r lim used L (P.eraseIdx i) (p :: X) ∧ Keeps (fun b => ro b ≠ 0) w w' := by
  have hS : ∀ b, (b = r ∨ blkOf vp = some b) → ro b = 1 ∨ ro b = 3 := fun b e => by
    rcases e with rfl | e
    · exact .inl h.rr
    · exact .inr (hd.rp b e)
  refine ⟨h.move k (fun b _ e => by have := hS b e; omega) (fun _ _ => rfl) (fun b hb => Nat.lt_of_lt_of_le (h.lt b hb) k.size) ⟨vl, v', hb, hd.sl.keeps k (fun b hb e => by have := hS b e; have := hd.rl b hb; omega), hs, hd.rl, fun g hg => hd.rp g (he ▸ hg)⟩ (perm_takeP hp), k.mono (fun b e => by have := hS b e; omega)⟩
/-- take from the cached ones, from the history: as what becomes of the memory. -/
theorem takeL_some (h : RamAt ro w r lim used L P X) (hn : L.length ≤ 1073741824) (k i : Nat) (p : Nat × It) (hf : firstAt (hasK k) L = some i) (hp : L[i]? = some p) :
    Calls Try.prog 43 #[.pointer (some ⟨r, 2, none⟩), .agg (keyR k).toArray] w fun e w' => e = .returned (.pointer (some ⟨p.1, 0, none⟩)) ∧ RamAt ro w' r lim used (L.eraseIdx i) P (p :: X) ∧ Keeps (fun b => ro b ≠ 0) w w' := by
  obtain ⟨vl, vp, hd⟩ := h.head
  refine (take_some w r 2 _ hd.blk vl rfl L hd.sl (fun q hq => h.atL hq) hn (fun g hg e => by have := hd.rl g hg; have := h.rr; subst e; omega) k i p hf hp).mono ?_
  rintro e w' ⟨v', rfl, h1, h2, h3, h4⟩
  exact ⟨rfl, h.takenL hd hp h1 h2 h3 h4⟩
theorem takeP_some (h : RamAt ro w r lim used L P X) (hn : P.length ≤ 1073741824) (k i : Nat) (p : Nat × It) (hf : firstAt (hasK k) P = some i) (hp : P[i]? = some p) :
    Calls Try.prog 43 #[.pointer (some ⟨r, 3, none⟩), .agg (keyR k).toArray] w fun e w' => e = .returned (.pointer (some ⟨p.1, 0, none⟩)) ∧ RamAt ro w' r lim used L (P.eraseIdx i) (p :: X) ∧ Keeps (fun b => ro b ≠ 0) w w' := by
  obtain ⟨vl, vp, hd⟩ := h.head
  refine (take_some w r 3 _ hd.blk vp rfl P hd.sp (fun q hq => h.atP hq) hn (fun g hg e => by have := hd.rp g hg; have := h.rr; subst e; omega) k i p hf hp).mono ?_
  rintro e w' ⟨v', rfl, h1, h2, h3, h4⟩
  exact ⟨rfl, h.takenP hd hp h1 h2 h3 h4⟩
theorem takeL_none (h : RamAt ro w r lim used L P X) (hn : L.length ≤ 1073741824) (k : Nat) (hf : firstAt (hasK k) L = none) :
    Calls Try.prog 43 #[.pointer (some ⟨r, 2, none⟩), .agg (keyR k).toArray] w fun e w' => e = .returned (.pointer none) ∧ Keeps (fun _ => False) w w' := by
  obtain ⟨vl, vp, hd⟩ := h.head
  exact take_none w r 2 _ hd.blk vl rfl L hd.sl (fun q hq => h.atL hq) hn k hf
theorem takeP_none (h : RamAt ro w r lim used L P X) (hn : P.length ≤ 1073741824) (k : Nat) (hf : firstAt (hasK k) P = none) :
    Calls Try.prog 43 #[.pointer (some ⟨r, 3, none⟩), .agg (keyR k).toArray] w fun e w' => e = .returned (.pointer none) ∧ Keeps (fun _ => False) w w' := by
  obtain ⟨vl, vp, hd⟩ := h.head
  exact take_none w r 3 _ hd.blk vp rfl P hd.sp (fun q hq => h.atP hq) hn k hf
theorem RamAt.setUsed {used' : Nat} (h : RamAt ro w r lim used L P X) : RamAt ro (w.setCell ⟨r, 1, none⟩ (.int .i64 used')) r lim used' L P X ∧ Keeps (fun b => ro b ≠ 0) w (w.setCell ⟨r, 1, none⟩ (.int .i64 used')) := by
  obtain ⟨vl, vp, hb, hl, hp, rl, rp⟩ := h.head
  have hk : Keeps (fun b => b = r) w (w.setCell ⟨r, 1, none⟩ (.int .i64 used')) := Keeps.setCell _ _ _ (fun _ => rfl)
  have hr := h.rr
  exact ⟨h.move hk (fun b _ e => by subst e; omega) (fun _ _ => rfl) (fun b hb => Nat.lt_of_lt_of_le (h.lt b hb) hk.size) ⟨vl, vp, hb.setCell 1 _, hl.keeps hk (fun b hb e => by have := rl b hb; subst e; omega), hp.keeps hk (fun b hb e => by have := rp b hb; subst e; omega), rl, rp⟩ (List.Perm.refl _), hk.mono (fun b e => by subst e; omega)⟩

set_option maxHeartbeats 2000000 in
theorem out_L (h : RamAt ro w r lim used L P X) (hn : L.length ≤ 1073741824) (k i : Nat) (p : Nat × It) (hf : firstAt (hasK k) L = some i) (hp : L[i]? = some p) (hu : p.2.size ≤ used) (hu2 : used ≤ 1073741824) :
    Calls Try.prog 31 #[.pointer (some ⟨r, 0, none⟩), .agg (keyR k).toArray] w fun e w' => e = .returned (.tuple #[.pointer (some ⟨p.1, 0, none⟩), .bool true]) ∧ RamAt ro w' r lim (used - p.2.size) (L.eraseIdx i) P (p :: X) ∧ Keeps (fun b => ro b ≠ 0) w w' := by
  have hk1 : Keeps (fun _ => False) w (w.alloc (.cells (keyR k).toArray 30)) := Keeps.alloc _ _ _
  have hr0 : ¬ ro w.heap.size ≠ 0 := fun e => by have := h.lt _ e; omega
  have H := Lib.hid (h.below hk1)
  have HB := Lib.hid (Blk.new w (keyR k) 30)
  have HF := Lib.hid hf
  have HP := Lib.hid hp
  clear hf hp
  have HK := Lib.hid hk1
  clear h hk1
  go_enter Try.func31, Try.ntmps31
  go_wp2
  have hD0 := H.out.below (Keeps.drew (fun _ => False) _)
  have hS0 : Blk (w.alloc (.cells (keyR k).toArray 30)).drew w.heap.size (keyR k) 30 := HB.out.drew
  refine wp_region_held_drew (S := fun w' => Blk w' w.heap.size (keyR k) 30) (by kernel_rfl) hS0 (fun _ => ?_)
  refine take_at 0 (some 7) (.pointer (some ⟨r, 0, none⟩)) rfl rfl (by kernel_rfl) (by kernel_rfl) (by kernel_rfl) (fun _ _ _ h => h) (.inl ⟨by rfl, fun w' hS => ?_⟩) hS0 ?_
  · go_simp
  try simp only [Act.put, List.setIfInBounds_toArray, List.set_cons_zero, List.set_cons_succ]
  refine take_at 1 (some 8) (.pointer (some ⟨r, 0, none⟩)) rfl rfl (by kernel_rfl) (by kernel_rfl) (by kernel_rfl) (fun _ _ _ h => h) (.inl ⟨by rfl, fun w' hS => ?_⟩) hS0 ?_
  · go_simp
  try simp only [Act.put, List.setIfInBounds_toArray, List.set_cons_zero, List.set_cons_succ]
  refine take_at 2 (some 9) (.pointer (some ⟨r, 2, none⟩)) rfl rfl (by kernel_rfl) (by kernel_rfl) (by kernel_rfl) (fun _ _ _ h => h) (.inl ⟨by rfl, fun w' hS => ?_⟩) hS0 ?_
  · go_simp
  try simp only [Act.put, List.setIfInBounds_toArray, List.set_cons_zero, List.set_cons_succ]
  refine take_at 3 (some 10) (.agg (keyR k).toArray) rfl rfl (by kernel_rfl) (by kernel_rfl) (by kernel_rfl) (fun _ _ _ h => h) (.inl ⟨by rfl, fun w' hS => ?_⟩) hS0 ?_
  · exact run_load_part (hS.part 0 (keyR k) (by simp [keyR])) 30 _ Try.underlying30 rfl (sizeKey _) _ _ (.tmp 3) rfl rfl
  try simp only [Act.put, List.setIfInBounds_toArray, List.set_cons_zero, List.set_cons_succ]
  refine wpAnyH_all (rs := [4]) (by kernel_rfl) (by simp) ?_
  intro i4 hi4
  obtain rfl : i4 = 4 := by simpa using hi4
  refine call_atG (some 11) rfl rfl rfl 43 #[.pointer (some ⟨r, 2, none⟩), .agg (keyR k).toArray] ?_ ?_
  · go_simp
  refine (takeL_some hD0 hn k i p HF.out HP.out).mono ?_
  rintro e w4 ⟨rfl, hR4, hK4⟩
  have hS4 : Blk w4 w.heap.size (keyR k) 30 := hS0.keeps hK4 hr0
  refine ⟨_, rfl, hS4, ?_⟩
  try simp only [Act.put, List.setIfInBounds_toArray, List.set_cons_zero, List.set_cons_succ]
  refine take_at 5 (some 6) (.pointer (some ⟨p.1, 0, none⟩)) rfl rfl (by kernel_rfl) (by kernel_rfl) (by kernel_rfl) (fun _ _ _ h => h) (.inl ⟨by rfl, fun w' hS => ?_⟩) hS4 ?_
  · go_simp
  try simp only [Act.put, List.setIfInBounds_toArray, List.set_cons_zero, List.set_cons_succ]
  refine wpAnyH_done (by kernel_rfl) ?_ _
  obtain ⟨vl, vp, hd⟩ := hR4.head
  obtain ⟨vb, he, _⟩ := (hR4.ents p (by simp)).ex
  have c1 := hd.blk.cell (j := 1) rfl
  have c2 := he.cell (ent_size p.2 vb)
  have f1 := hd.blk.frozen 1
  have c1d : w4.drew.cell? ⟨r, 1, none⟩ = some (.int .i64 used) := c1
  have c2d : w4.drew.cell? ⟨p.1, 33, none⟩ = some (.int .i64 p.2.size) := c2
  have f1d : w4.drew.frozen? ⟨r, 1, none⟩ = false := f1
  have e1 : IntKind.i64.wrap ((used : Int) - p.2.size) = ((used - p.2.size : Nat) : Int) := by rw [IntKind.wrap_i64]; omega
  have hfin := (hR4.below (Keeps.drew (fun _ => False) w4)).setUsed (used' := used - p.2.size)
  have HFIN := Lib.hid hfin
  have HK4 := Lib.hid (((HK.out.mono (fun _ h => h.elim)).trans (Keeps.drew (fun b => ro b ≠ 0) _)).trans hK4)
  clear hfin hS4 hS0 hK4 hR4 hD0 hd he c1 c2 f1
  go_wp2
  go_region
  all_goals
    go_wp2
    go_ret2
    exact ⟨rfl, HFIN.out.1, (HK4.out.trans (Keeps.drew _ _)).trans HFIN.out.2⟩

set_option maxHeartbeats 2000000 in
theorem out_P (h : RamAt ro w r lim used L P X) (hn : L.length ≤ 1073741824) (hn2 : P.length ≤ 1073741824) (k i : Nat) (p : Nat × It) (hl : firstAt (hasK k) L = none) (hf : firstAt (hasK k) P = some i) (hp : P[i]? = some p) :
    Calls Try.prog 31 #[.pointer (some ⟨r, 0, none⟩), .agg (keyR k).toArray] w fun e w' => e = .returned (.tuple #[.pointer (some ⟨p.1, 0, none⟩), .bool false]) ∧ RamAt ro w' r lim used L (P.eraseIdx i) (p :: X) ∧ Keeps (fun b => ro b ≠ 0) w w' := by
  have hk1 : Keeps (fun _ => False) w (w.alloc (.cells (keyR k).toArray 30)) := Keeps.alloc _ _ _
  have hr0 : ¬ ro w.heap.size ≠ 0 := fun e => by have := h.lt _ e; omega
  have H := Lib.hid (h.below hk1)
  have HB := Lib.hid (Blk.new w (keyR k) 30)
  have HL := Lib.hid hl
  have HF := Lib.hid hf
  have HP := Lib.hid hp
  clear hf hp hl
  have HK := Lib.hid hk1
  clear h hk1
  go_enter Try.func31, Try.ntmps31
  go_wp2
  have hD0 := H.out.below (Keeps.drew (fun _ => False) _)
  have hS0 : Blk (w.alloc (.cells (keyR k).toArray 30)).drew w.heap.size (keyR k) 30 := HB.out.drew
  refine wp_region_held_drew (S := fun w' => Blk w' w.heap.size (keyR k) 30) (by kernel_rfl) hS0 (fun _ => ?_)
  refine take_at 0 (some 7) (.pointer (some ⟨r, 0, none⟩)) rfl rfl (by kernel_rfl) (by kernel_rfl) (by kernel_rfl) (fun _ _ _ h => h) (.inl ⟨by rfl, fun w' hS => ?_⟩) hS0 ?_
  · go_simp
  try simp only [Act.put, List.setIfInBounds_toArray, List.set_cons_zero, List.set_cons_succ]
  refine take_at 1 (some 8) (.pointer (some ⟨r, 0, none⟩)) rfl rfl (by kernel_rfl) (by kernel_rfl) (by kernel_rfl) (fun _ _ _ h => h) (.inl ⟨by rfl, fun w' hS => ?_⟩) hS0 ?_
  · go_simp
  try simp only [Act.put, List.setIfInBounds_toArray, List.set_cons_zero, List.set_cons_succ]
  refine take_at 2 (some 9) (.pointer (some ⟨r, 2, none⟩)) rfl rfl (by kernel_rfl) (by kernel_rfl) (by kernel_rfl) (fun _ _ _ h => h) (.inl ⟨by rfl, fun w' hS => ?_⟩) hS0 ?_
  · go_simp
  try simp only [Act.put, List.setIfInBounds_toArray, List.set_cons_zero, List.set_cons_succ]
  refine take_at 3 (some 10) (.agg (keyR k).toArray) rfl rfl (by kernel_rfl) (by kernel_rfl) (by kernel_rfl) (fun _ _ _ h => h) (.inl ⟨by rfl, fun w' hS => ?_⟩) hS0 ?_
  · exact run_load_part (hS.part 0 (keyR k) (by simp [keyR])) 30 _ Try.underlying30 rfl (sizeKey _) _ _ (.tmp 3) rfl rfl
  try simp only [Act.put, List.setIfInBounds_toArray, List.set_cons_zero, List.set_cons_succ]
  refine wpAnyH_all (rs := [4]) (by kernel_rfl) (by simp) ?_
  intro i4 hi4
  obtain rfl : i4 = 4 := by simpa using hi4
  refine call_atG (some 11) rfl rfl rfl 43 #[.pointer (some ⟨r, 2, none⟩), .agg (keyR k).toArray] ?_ ?_
  · go_simp
  refine (takeL_none hD0 hn k HL.out).mono ?_
  rintro e w4 ⟨rfl, hK4⟩
  have hS4 : Blk w4 w.heap.size (keyR k) 30 := hS0.keeps hK4 id
  refine ⟨_, rfl, hS4, ?_⟩
  try simp only [Act.put, List.setIfInBounds_toArray, List.set_cons_zero, List.set_cons_succ]
  refine take_at 5 (some 6) (.pointer none) rfl rfl (by kernel_rfl) (by kernel_rfl) (by kernel_rfl) (fun _ _ _ h => h) (.inl ⟨by rfl, fun w' hS => ?_⟩) hS4 ?_
  · go_simp
  try simp only [Act.put, List.setIfInBounds_toArray, List.set_cons_zero, List.set_cons_succ]
  refine wpAnyH_done (by kernel_rfl) ?_ _
  have H4 := Lib.hid (hD0.below hK4)
  have HB4 := Lib.hid hS4
  have HK4 := Lib.hid ((HK.out.trans (Keeps.drew _ _)).trans hK4)
  clear hS4 hS0 hK4 hD0
  go_wp2
  have hD0 := H4.out.below (Keeps.drew (fun _ => False) _)
  have hS0 : Blk (w4).drew w.heap.size (keyR k) 30 := HB4.out.drew
  refine wp_region_held_drew (S := fun w' => Blk w' w.heap.size (keyR k) 30) (by kernel_rfl) hS0 (fun _ => ?_)
  refine take_at 0 (some 26) (.pointer (some ⟨r, 0, none⟩)) rfl rfl (by kernel_rfl) (by kernel_rfl) (by kernel_rfl) (fun _ _ _ h => h) (.inl ⟨by rfl, fun w' hS => ?_⟩) hS0 ?_
  · go_simp
  try simp only [Act.put, List.setIfInBounds_toArray, List.set_cons_zero, List.set_cons_succ]
  refine take_at 1 (some 27) (.pointer (some ⟨r, 0, none⟩)) rfl rfl (by kernel_rfl) (by kernel_rfl) (by kernel_rfl) (fun _ _ _ h => h) (.inl ⟨by rfl, fun w' hS => ?_⟩) hS0 ?_
  · go_simp
  try simp only [Act.put, List.setIfInBounds_toArray, List.set_cons_zero, List.set_cons_succ]
  refine take_at 2 (some 28) (.pointer (some ⟨r, 3, none⟩)) rfl rfl (by kernel_rfl) (by kernel_rfl) (by kernel_rfl) (fun _ _ _ h => h) (.inl ⟨by rfl, fun w' hS => ?_⟩) hS0 ?_
  · go_simp
  try simp only [Act.put, List.setIfInBounds_toArray, List.set_cons_zero, List.set_cons_succ]
  refine take_at 3 (some 29) (.agg (keyR k).toArray) rfl rfl (by kernel_rfl) (by kernel_rfl) (by kernel_rfl) (fun _ _ _ h => h) (.inl ⟨by rfl, fun w' hS => ?_⟩) hS0 ?_
  · exact run_load_part (hS.part 0 (keyR k) (by simp [keyR])) 30 _ Try.underlying30 rfl (sizeKey _) _ _ (.tmp 3) rfl rfl
  try simp only [Act.put, List.setIfInBounds_toArray, List.set_cons_zero, List.set_cons_succ]
  refine wpAnyH_all (rs := [4]) (by kernel_rfl) (by simp) ?_
  intro i4 hi4
  obtain rfl : i4 = 4 := by simpa using hi4
  refine call_atG (some 30) rfl rfl rfl 43 #[.pointer (some ⟨r, 3, none⟩), .agg (keyR k).toArray] ?_ ?_
  · go_simp
  refine (takeP_some hD0 hn2 k i p HF.out HP.out).mono ?_
  rintro e w5 ⟨rfl, hR5, hK5⟩
  have hS4 : Blk w5 w.heap.size (keyR k) 30 := hS0.keeps hK5 hr0
  refine ⟨_, rfl, hS4, ?_⟩
  try simp only [Act.put, List.setIfInBounds_toArray, List.set_cons_zero, List.set_cons_succ]
  refine take_at 5 (some 4) (.pointer (some ⟨p.1, 0, none⟩)) rfl rfl (by kernel_rfl) (by kernel_rfl) (by kernel_rfl) (fun _ _ _ h => h) (.inl ⟨by rfl, fun w' hS => ?_⟩) hS4 ?_
  · go_simp
  try simp only [Act.put, List.setIfInBounds_toArray, List.set_cons_zero, List.set_cons_succ]
  refine take_at 6 (some 5) (.bool false) rfl rfl (by kernel_rfl) (by kernel_rfl) (by kernel_rfl) (fun _ _ _ h => h) (.inl ⟨by rfl, fun w' hS => ?_⟩) hS4 ?_
  · go_simp
  try simp only [Act.put, List.setIfInBounds_toArray, List.set_cons_zero, List.set_cons_succ]
  refine wpAnyH_done (by kernel_rfl) ?_ _
  have HR5 := Lib.hid hR5
  have HK5 := Lib.hid ((((HK4.out.mono (fun _ h => h.elim)).trans (Keeps.drew (fun b => ro b ≠ 0) _))).trans hK5)
  clear hS4 hS0 hK5 hR5 hD0
  go_wp2
  go_ret2
  exact ⟨rfl, HR5.out, HK5.out⟩

set_option maxHeartbeats 2000000 in
theorem out_none (h : RamAt ro w r lim used L P X) (hn : L.length ≤ 1073741824) (hn2 : P.length ≤ 1073741824) (k : Nat) (hl : firstAt (hasK k) L = none) (hf : firstAt (hasK k) P = none) :
    Calls Try.prog 31 #[.pointer (some ⟨r, 0, none⟩), .agg (keyR k).toArray] w fun e w' => e = .returned (.tuple #[.pointer none, .bool false]) ∧ Keeps (fun _ => False) w w' := by
  have hk1 : Keeps (fun _ => False) w (w.alloc (.cells (keyR k).toArray 30)) := Keeps.alloc _ _ _
  have hr0 : ¬ ro w.heap.size ≠ 0 := fun e => by have := h.lt _ e; omega
  have H := Lib.hid (h.below hk1)
  have HB := Lib.hid (Blk.new w (keyR k) 30)
  have HL := Lib.hid hl
  have HF := Lib.hid hf
  clear hf hl
  have HK := Lib.hid hk1
  clear h hk1
  go_enter Try.func31, Try.ntmps31
  go_wp2
  have hD0 := H.out.below (Keeps.drew (fun _ => False) _)
  have hS0 : Blk (w.alloc (.cells (keyR k).toArray 30)).drew w.heap.size (keyR k) 30 := HB.out.drew
  refine wp_region_held_drew (S := fun w' => Blk w' w.heap.size (keyR k) 30) (by kernel_rfl) hS0 (fun _ => ?_)
  refine take_at 0 (some 7) (.pointer (some ⟨r, 0, none⟩)) rfl rfl (by kernel_rfl) (by kernel_rfl) (by kernel_rfl) (fun _ _ _ h => h) (.inl ⟨by rfl, fun w' hS => ?_⟩) hS0 ?_
  · go_simp
  try simp only [Act.put, List.setIfInBounds_toArray, List.set_cons_zero, List.set_cons_succ]
  refine take_at 1 (some 8) (.pointer (some ⟨r, 0, none⟩)) rfl rfl (by kernel_rfl) (by kernel_rfl) (by kernel_rfl) (fun _ _ _ h => h) (.inl ⟨by rfl, fun w' hS => ?_⟩) hS0 ?_
  · go_simp
  try simp only [Act.put, List.setIfInBounds_toArray, List.set_cons_zero, List.set_cons_succ]
  refine take_at 2 (some 9) (.pointer (some ⟨r, 2, none⟩)) rfl rfl (by kernel_rfl) (by kernel_rfl) (by kernel_rfl) (fun _ _ _ h => h) (.inl ⟨by rfl, fun w' hS => ?_⟩) hS0 ?_
  · go_simp
  try simp only [Act.put, List.setIfInBounds_toArray, List.set_cons_zero, List.set_cons_succ]
  refine take_at 3 (some 10) (.agg (keyR k).toArray) rfl rfl (by kernel_rfl) (by kernel_rfl) (by kernel_rfl) (fun _ _ _ h => h) (.inl ⟨by rfl, fun w' hS => ?_⟩) hS0 ?_
  · exact run_load_part (hS.part 0 (keyR k) (by simp [keyR])) 30 _ Try.underlying30 rfl (sizeKey _) _ _ (.tmp 3) rfl rfl
  try simp only [Act.put, List.setIfInBounds_toArray, List.set_cons_zero, List.set_cons_succ]
  refine wpAnyH_all (rs := [4]) (by kernel_rfl) (by simp) ?_
  intro i4 hi4
  obtain rfl : i4 = 4 := by simpa using hi4
  refine call_atG (some 11) rfl rfl rfl 43 #[.pointer (some ⟨r, 2, none⟩), .agg (keyR k).toArray] ?_ ?_
  · go_simp
  refine (takeL_none hD0 hn k HL.out).mono ?_
  rintro e w4 ⟨rfl, hK4⟩
  have hS4 : Blk w4 w.heap.size (keyR k) 30 := hS0.keeps hK4 id
  refine ⟨_, rfl, hS4, ?_⟩
  try simp only [Act.put, List.setIfInBounds_toArray, List.set_cons_zero, List.set_cons_succ]
  refine take_at 5 (some 6) (.pointer none) rfl rfl (by kernel_rfl) (by kernel_rfl) (by kernel_rfl) (fun _ _ _ h => h) (.inl ⟨by rfl, fun w' hS => ?_⟩) hS4 ?_
  · go_simp
  try simp only [Act.put, List.setIfInBounds_toArray, List.set_cons_zero, List.set_cons_succ]
  refine wpAnyH_done (by kernel_rfl) ?_ _
  have H4 := Lib.hid (hD0.below hK4)
  have HB4 := Lib.hid hS4
  have HK4 := Lib.hid ((HK.out.trans (Keeps.drew _ _)).trans hK4)
  clear hS4 hS0 hK4 hD0
  go_wp2
  have hD0 := H4.out.below (Keeps.drew (fun _ => False) _)
  have hS0 : Blk (w4).drew w.heap.size (keyR k) 30 := HB4.out.drew
  refine wp_region_held_drew (S := fun w' => Blk w' w.heap.size (keyR k) 30) (by kernel_rfl) hS0 (fun _ => ?_)
  refine take_at 0 (some 26) (.pointer (some ⟨r, 0, none⟩)) rfl rfl (by kernel_rfl) (by kernel_rfl) (by kernel_rfl) (fun _ _ _ h => h) (.inl ⟨by rfl, fun w' hS => ?_⟩) hS0 ?_
  · go_simp
  try simp only [Act.put, List.setIfInBounds_toArray, List.set_cons_zero, List.set_cons_succ]
  refine take_at 1 (some 27) (.pointer (some ⟨r, 0, none⟩)) rfl rfl (by kernel_rfl) (by kernel_rfl) (by kernel_rfl) (fun _ _ _ h => h) (.inl ⟨by rfl, fun w' hS => ?_⟩) hS0 ?_
  · go_simp
  try simp only [Act.put, List.setIfInBounds_toArray, List.set_cons_zero, List.set_cons_succ]
  refine take_at 2 (some 28) (.pointer (some ⟨r, 3, none⟩)) rfl rfl (by kernel_rfl) (by kernel_rfl) (by kernel_rfl) (fun _ _ _ h => h) (.inl ⟨by rfl, fun w' hS => ?_⟩) hS0 ?_
  · go_simp
  try simp only [Act.put, List.setIfInBounds_toArray, List.set_cons_zero, List.set_cons_succ]
  refine take_at 3 (some 29) (.agg (keyR k).toArray) rfl rfl (by kernel_rfl) (by kernel_rfl) (by kernel_rfl) (fun _ _ _ h => h) (.inl ⟨by rfl, fun w' hS => ?_⟩) hS0 ?_
  · exact run_load_part (hS.part 0 (keyR k) (by simp [keyR])) 30 _ Try.underlying30 rfl (sizeKey _) _ _ (.tmp 3) rfl rfl
  try simp only [Act.put, List.setIfInBounds_toArray, List.set_cons_zero, List.set_cons_succ]
  refine wpAnyH_all (rs := [4]) (by kernel_rfl) (by simp) ?_
  intro i4 hi4
  obtain rfl : i4 = 4 := by simpa using hi4
  refine call_atG (some 30) rfl rfl rfl 43 #[.pointer (some ⟨r, 3, none⟩), .agg (keyR k).toArray] ?_ ?_
  · go_simp
  refine (takeP_none hD0 hn2 k HF.out).mono ?_
  rintro e w5 ⟨rfl, hK5⟩
  have hS4 : Blk w5 w.heap.size (keyR k) 30 := hS0.keeps hK5 id
  refine ⟨_, rfl, hS4, ?_⟩
  try simp only [Act.put, List.setIfInBounds_toArray, List.set_cons_zero, List.set_cons_succ]
  refine take_at 5 (some 4) (.pointer none) rfl rfl (by kernel_rfl) (by kernel_rfl) (by kernel_rfl) (fun _ _ _ h => h) (.inl ⟨by rfl, fun w' hS => ?_⟩) hS4 ?_
  · go_simp
  try simp only [Act.put, List.setIfInBounds_toArray, List.set_cons_zero, List.set_cons_succ]
  refine take_at 6 (some 5) (.bool false) rfl rfl (by kernel_rfl) (by kernel_rfl) (by kernel_rfl) (fun _ _ _ h => h) (.inl ⟨by rfl, fun w' hS => ?_⟩) hS4 ?_
  · go_simp
  try simp only [Act.put, List.setIfInBounds_toArray, List.set_cons_zero, List.set_cons_succ]
  refine wpAnyH_done (by kernel_rfl) ?_ _
  have HK5 := Lib.hid ((HK4.out.trans (Keeps.drew _ _)).trans hK5)
  clear hS4 hS0 hK5 hD0
  go_wp2
  go_ret2
  exact ⟨rfl, HK5.out⟩
end Go.Proofs.Ytpiijfknpliahaa
