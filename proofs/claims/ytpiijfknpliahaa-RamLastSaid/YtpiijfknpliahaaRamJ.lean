/- Contract of trim, plain and as a deferred call. Conditions: the receiver is a memory. -/
import Derived.Test.YtpiijfknpliahaaRamI
import Derived.Defers
namespace Go.Proofs.Ytpiijfknpliahaa
open Go.RowKit
set_option maxRecDepth 100000
attribute [local go_sem] Oper.semAt_some

variable {ro : Nat → Nat} {w w' : World} {r lim used : Nat} {L P X : Ents}
theorem Delete_pre (w : World) (v : Value) (E : Ents) (j : Nat) (hv : SlO w v 57 1 E.length (cellsP E)) (hj : j ≤ E.length) (hn : E.length ≤ 1073741824) :
    Calls Try.prog 46 #[v, .int .i64 0, .int .i64 j] w fun e w' => ∃ a n c, e = .returned (.slice a n c) ∧ SlO w' (.slice a n c) 57 1 (E.drop j).length (cellsP (E.drop j)) ∧ Keeps (fun k => blkOf v = some k) w w' ∧ blkOf (.slice a n c) = blkOf v := by
  by_cases h0 : j = 0
  · subst h0
    refine (Delete_none w v E 0 hv (Nat.zero_le _)).mono ?_
    rintro e w' ⟨rfl, hk⟩
    obtain ⟨a, c, rfl, _⟩ := hv.form
    exact ⟨a, _, c, rfl, hv.keeps hk (fun _ _ h => h), hk.mono (fun _ h => h.elim), rfl⟩
  · refine (Delete_some w v E 0 j hv (by omega) hj hn).mono ?_
    rintro e w' ⟨v', rfl, h1, h2, h3⟩
    obtain ⟨a, c, rfl, _⟩ := h1.form
    rw [List.take_zero, List.nil_append] at h1
    refine ⟨a, _, c, rfl, ?_, h2, h3⟩
    rw [List.take_zero, List.nil_append]; exact h1
theorem RamAt.shrink {Y : Ents} (h : RamAt ro w r lim used L P (Y ++ X)) : RamAt ro w r lim used L P X := by
  induction Y with
  | nil => exact h
  | cons y Y ih => exact ih h.loose
def trimN (L P : Ents) : Nat := P.length - L.length - 16
theorem RamAt.trimmed {vl vp v' : Value} {n : Nat} (h : RamAt ro w r lim used L P X) (hd : RamHead ro w r lim used L P vl vp)
    (hs : SlO w' v' 57 1 (P.drop n).length (cellsP (P.drop n))) (he : blkOf v' = blkOf vp) (k : Keeps (fun b => blkOf vp = some b) w w') :
    RamAt ro (w'.setCell ⟨r, 3, none⟩ v') r lim used L (P.drop n) X ∧ Keeps (fun b => ro b ≠ 0) w (w'.setCell ⟨r, 3, none⟩ v') := by
  have hk2 : Keeps (fun b => b = r) w' (w'.setCell ⟨r, 3, none⟩ v') := Keeps.setCell _ _ _ (fun _ => rfl)
  have hkk : Keeps (fun b => b = r ∨ blkOf vp = some b) w (w'.setCell ⟨r, 3, none⟩ v') := (k.mono (fun _ e => .inr e)).trans (hk2.mono (fun _ e => .inl e))
  have hS : ∀ b, (b = r ∨ blkOf vp = some b) → ro b = 1 ∨ ro b = 3 := fun b e => by
    rcases e with rfl | e
    · exact .inl h.rr
    · exact .inr (hd.rp b e)
  have hr6 : Blk w' r [.int .i64 lim, .int .i64 used, vl, vp] 56 := hd.blk.keeps k (fun e => by have := hd.rp _ e; have := h.rr; omega)
  have hp : (L ++ P.drop n ++ (P.take n ++ X)).Perm (L ++ P ++ X) := by
    rw [List.append_assoc, List.append_assoc]
    refine List.Perm.append_left _ ?_
    rw [← List.append_assoc]
    refine List.Perm.append_right _ ?_
    refine List.perm_append_comm.trans ?_
    rw [List.take_append_drop]
  refine ⟨(h.move hkk (fun b _ e => by have := hS b e; omega) (fun _ _ => rfl) (fun b hb => Nat.lt_of_lt_of_le (h.lt b hb) hkk.size) ⟨vl, v', hr6.setCell 3 v', ?_, ?_, hd.rl, fun g hg => hd.rp g (he ▸ hg)⟩ hp).shrink, hkk.mono (fun b e => by have := hS b e; omega)⟩
  · exact hd.sl.keeps hkk (fun b hb e => by have := hS b e; have := hd.rl b hb; omega)
  · exact hs.keeps hk2 (fun b hb e => by rw [he] at hb; have := hd.rp b hb; have := h.rr; subst e; omega)

set_option maxHeartbeats 2000000 in
theorem trim_any (h : RamAt ro w r lim used L P X) (hn : L.length ≤ 1073741824) (hn2 : P.length ≤ 1073741824) :
    Calls Try.prog 29 #[.pointer (some ⟨r, 0, none⟩)] w fun e w' => e = .returned (.tuple #[]) ∧ RamAt ro w' r lim used L (P.drop (trimN L P)) X ∧ Keeps (fun b => ro b ≠ 0) w w' := by
  obtain ⟨vl, vp, hd⟩ := h.head
  have hdel := Delete_pre w.drew vp P (trimN L P) (hd.sp.keeps (Keeps.drew (fun _ => False) _) (fun _ _ h => h)) (by unfold trimN; omega) hn2
  have hmax : ∀ W : World, (Builtin.max_ #[3, 3] 3 #[.int .i64 ((P.length : Int) - L.length - 16), .int .i64 0]).run Try.prog W = .ok (.int .i64 (trimN L P : Nat)) W := fun W => by
    rw [run_max_int]
    rw [show max ((P.length : Int) - L.length - 16) 0 = ((trimN L P : Nat) : Int) by unfold trimN; omega]
  have e1 : IntKind.i64.wrap ((P.length : Int) - L.length) = (P.length : Int) - L.length := by rw [IntKind.wrap_i64]; omega
  have e2 : IntKind.i64.wrap ((P.length : Int) - L.length - 16) = (P.length : Int) - L.length - 16 := by rw [IntKind.wrap_i64]; omega
  obtain ⟨la, lc, rfl, _⟩ := hd.sl.form
  obtain ⟨pa, pc, rfl, _⟩ := hd.sp.form
  have c2 : w.drew.cell? ⟨r, 2, none⟩ = some (.slice la L.length lc) := hd.blk.drew.cell (j := 2) rfl
  have c3 : w.drew.cell? ⟨r, 3, none⟩ = some (.slice pa P.length pc) := hd.blk.drew.cell (j := 3) rfl
  have hd5 : RamHead ro w.drew r lim used L P (.slice la L.length lc) (.slice pa P.length pc) := ⟨hd.blk.drew, hd.sl.keeps (Keeps.drew (fun _ => False) _) (fun _ _ h => h), hd.sp.keeps (Keeps.drew (fun _ => False) _) (fun _ _ h => h), hd.rl, hd.rp⟩
  have htr : ∀ (w5 : World) (v' : Value), SlO w5 v' 57 1 (P.drop (trimN L P)).length (cellsP (P.drop (trimN L P))) → blkOf v' = blkOf (.slice pa P.length pc) → Keeps (fun b => blkOf (.slice pa P.length pc) = some b) w.drew w5 → RamAt ro (w5.setCell ⟨r, 3, none⟩ v') r lim used L (P.drop (trimN L P)) X ∧ Keeps (fun b => ro b ≠ 0) w (w5.setCell ⟨r, 3, none⟩ v') := fun w5 v' h1 h2 h3 => by
    have ht := (h.below (Keeps.drew (fun _ => False) _)).trimmed hd5 h1 h2 h3
    exact ⟨ht.1, (Keeps.drew _ _).trans ht.2⟩
  have HTR := Lib.hid htr
  have H := Lib.hid h
  have HD := Lib.hid hd
  have HDEL := Lib.hid hdel
  generalize trimN L P = n at *
  clear h hd hdel hd5 htr
  go_enter Try.func29, Try.ntmps29
  go_wp2
  refine wp_region_held_drew (S := fun _ => True) (by kernel_rfl) trivial (fun _ => ?_)
  refine take_at 0 (some 2) (.pointer (some ⟨r, 0, none⟩)) rfl rfl (by kernel_rfl) (by kernel_rfl) (by kernel_rfl) (fun _ _ _ h => h) (.inl ⟨by rfl, fun w' hS => ?_⟩) trivial ?_
  · go_simp
  try simp only [Act.put, List.setIfInBounds_toArray, List.set_cons_zero, List.set_cons_succ]
  refine take_at 1 (some 3) (.pointer (some ⟨r, 0, none⟩)) rfl rfl (by kernel_rfl) (by kernel_rfl) (by kernel_rfl) (fun _ _ _ h => h) (.inl ⟨by rfl, fun w' hS => ?_⟩) trivial ?_
  · go_simp
  try simp only [Act.put, List.setIfInBounds_toArray, List.set_cons_zero, List.set_cons_succ]
  refine take_at 2 (some 4) (.pointer (some ⟨r, 0, none⟩)) rfl rfl (by kernel_rfl) (by kernel_rfl) (by kernel_rfl) (fun _ _ _ h => h) (.inl ⟨by rfl, fun w' hS => ?_⟩) trivial ?_
  · go_simp
  try simp only [Act.put, List.setIfInBounds_toArray, List.set_cons_zero, List.set_cons_succ]
  refine take_at 3 (some 5) (.pointer (some ⟨r, 3, none⟩)) rfl rfl (by kernel_rfl) (by kernel_rfl) (by kernel_rfl) (fun _ _ _ h => h) (.inl ⟨by rfl, fun w' hS => ?_⟩) trivial ?_
  · go_simp
  try simp only [Act.put, List.setIfInBounds_toArray, List.set_cons_zero, List.set_cons_succ]
  refine take_at 5 (some 7) (.pointer (some ⟨r, 0, none⟩)) rfl rfl (by kernel_rfl) (by kernel_rfl) (by kernel_rfl) (fun _ _ _ h => h) (.inl ⟨by rfl, fun w' hS => ?_⟩) trivial ?_
  · go_simp
  try simp only [Act.put, List.setIfInBounds_toArray, List.set_cons_zero, List.set_cons_succ]
  refine take_at 6 (some 8) (.pointer (some ⟨r, 0, none⟩)) rfl rfl (by kernel_rfl) (by kernel_rfl) (by kernel_rfl) (fun _ _ _ h => h) (.inl ⟨by rfl, fun w' hS => ?_⟩) trivial ?_
  · go_simp
  try simp only [Act.put, List.setIfInBounds_toArray, List.set_cons_zero, List.set_cons_succ]
  refine take_at 7 (some 9) (.pointer (some ⟨r, 3, none⟩)) rfl rfl (by kernel_rfl) (by kernel_rfl) (by kernel_rfl) (fun _ _ _ h => h) (.inl ⟨by rfl, fun w' hS => ?_⟩) trivial ?_
  · go_simp
  try simp only [Act.put, List.setIfInBounds_toArray, List.set_cons_zero, List.set_cons_succ]
  refine take_at 10 (some 12) (.pointer (some ⟨r, 0, none⟩)) rfl rfl (by kernel_rfl) (by kernel_rfl) (by kernel_rfl) (fun _ _ _ h => h) (.inl ⟨by rfl, fun w' hS => ?_⟩) trivial ?_
  · go_simp
  try simp only [Act.put, List.setIfInBounds_toArray, List.set_cons_zero, List.set_cons_succ]
  refine take_at 11 (some 13) (.pointer (some ⟨r, 0, none⟩)) rfl rfl (by kernel_rfl) (by kernel_rfl) (by kernel_rfl) (fun _ _ _ h => h) (.inl ⟨by rfl, fun w' hS => ?_⟩) trivial ?_
  · go_simp
  try simp only [Act.put, List.setIfInBounds_toArray, List.set_cons_zero, List.set_cons_succ]
  refine take_at 12 (some 14) (.pointer (some ⟨r, 2, none⟩)) rfl rfl (by kernel_rfl) (by kernel_rfl) (by kernel_rfl) (fun _ _ _ h => h) (.inl ⟨by rfl, fun w' hS => ?_⟩) trivial ?_
  · go_simp
  try simp only [Act.put, List.setIfInBounds_toArray, List.set_cons_zero, List.set_cons_succ]
  refine wpAnyH_all (rs := [4, 8, 13]) (by kernel_rfl) (by simp) ?_
  intro ix hix
  have hor : ix = 4 ∨ ix = 8 ∨ ix = 13 := by simpa using hix
  clear hix
  rcases hor with rfl | rfl | rfl
  · refine run_at (w' := w.drew) (some 6) (.slice pa P.length pc) rfl rfl rfl (by have := c3; go_simp) ?_
    refine ⟨trivial, ?_⟩
    try simp only [Act.put, List.setIfInBounds_toArray, List.set_cons_zero, List.set_cons_succ]
    refine wpAnyH_all (rs := [8, 13]) (by kernel_rfl) (by simp) ?_
    intro ix hix
    have hor : ix = 8 ∨ ix = 13 := by simpa using hix
    clear hix
    rcases hor with rfl | rfl
    · refine run_at (w' := w.drew) (some 10) (.slice pa P.length pc) rfl rfl rfl (by have := c3; go_simp) ?_
      refine ⟨trivial, ?_⟩
      try simp only [Act.put, List.setIfInBounds_toArray, List.set_cons_zero, List.set_cons_succ]
      refine take_at 9 (some 11) (.int .i64 P.length) rfl rfl (by kernel_rfl) (by kernel_rfl) (by kernel_rfl) (fun _ _ _ h => h) (.inl ⟨by rfl, fun w' hS => ?_⟩) trivial ?_
      · go_simp
      try simp only [Act.put, List.setIfInBounds_toArray, List.set_cons_zero, List.set_cons_succ]
      refine wpAnyH_all (rs := [13]) (by kernel_rfl) (by simp) ?_
      intro i13 hi13
      obtain rfl : i13 = 13 := by simpa using hi13
      refine run_at (w' := w.drew) (some 15) (.slice la L.length lc) rfl rfl rfl (by have := c2; go_simp) ?_
      refine ⟨trivial, ?_⟩
      try simp only [Act.put, List.setIfInBounds_toArray, List.set_cons_zero, List.set_cons_succ]
      refine take_at 14 (some 16) (.int .i64 L.length) rfl rfl (by kernel_rfl) (by kernel_rfl) (by kernel_rfl) (fun _ _ _ h => h) (.inl ⟨by rfl, fun w' hS => ?_⟩) trivial ?_
      · go_simp
      try simp only [Act.put, List.setIfInBounds_toArray, List.set_cons_zero, List.set_cons_succ]
      refine take_at 15 (some 17) (.int .i64 ((P.length : Int) - L.length)) rfl rfl (by kernel_rfl) (by kernel_rfl) (by kernel_rfl) (fun _ _ _ h => h) (.inl ⟨by rfl, fun w' hS => ?_⟩) trivial ?_
      · go_simp
      try simp only [Act.put, List.setIfInBounds_toArray, List.set_cons_zero, List.set_cons_succ]
      refine take_at 16 (some 18) (.int .i64 ((P.length : Int) - L.length - 16)) rfl rfl (by kernel_rfl) (by kernel_rfl) (by kernel_rfl) (fun _ _ _ h => h) (.inl ⟨by rfl, fun w' hS => ?_⟩) trivial ?_
      · go_simp
      try simp only [Act.put, List.setIfInBounds_toArray, List.set_cons_zero, List.set_cons_succ]
      refine take_at 17 (some 19) (.int .i64 n) rfl rfl (by kernel_rfl) (by kernel_rfl) (by kernel_rfl) (fun _ _ _ h => h) (.inl ⟨by rfl, fun w' hS => ?_⟩) trivial ?_
      · go_simp
      try simp only [Act.put, List.setIfInBounds_toArray, List.set_cons_zero, List.set_cons_succ]
      refine wpAnyH_all (rs := [18]) (by kernel_rfl) (by simp) ?_
      intro i18 hi18
      obtain rfl : i18 = 18 := by simpa using hi18
      refine call_atG (some 20) rfl rfl rfl 46 #[.slice pa P.length pc, .int .i64 0, .int .i64 n] ?_ ?_
      · go_simp
      refine HDEL.out.mono ?_
      rintro e w5 ⟨va, vn, vc, rfl, hs5, hk5, hb5⟩
      have h5 := (HD.out.blk.drew.keeps hk5 (fun e => by have := HD.out.rp _ e; have := H.out.rr; omega))
      have c5 := h5.cell (j := 3) rfl
      have f5 := h5.frozen 3
      refine ⟨_, rfl, trivial, ?_⟩
      try simp only [Act.put, List.setIfInBounds_toArray, List.set_cons_zero, List.set_cons_succ]
      refine take_at 19 (some 21) (.pointer (some ⟨r, 0, none⟩)) rfl rfl (by kernel_rfl) (by kernel_rfl) (by kernel_rfl) (fun _ _ _ h => h) (.inl ⟨by rfl, fun w' hS => ?_⟩) trivial ?_
      · go_simp
      try simp only [Act.put, List.setIfInBounds_toArray, List.set_cons_zero, List.set_cons_succ]
      refine take_at 20 (some 22) (.pointer (some ⟨r, 3, none⟩)) rfl rfl (by kernel_rfl) (by kernel_rfl) (by kernel_rfl) (fun _ _ _ h => h) (.inl ⟨by rfl, fun w' hS => ?_⟩) trivial ?_
      · go_simp
      try simp only [Act.put, List.setIfInBounds_toArray, List.set_cons_zero, List.set_cons_succ]
      refine wpAnyH_all (rs := [21]) (by kernel_rfl) (by simp) ?_
      intro i21 hi21
      obtain rfl : i21 = 21 := by simpa using hi21
      refine skip_at (w' := w5.setCell ⟨r, 3, none⟩ (.slice va vn vc)) rfl rfl (by go_simp) ?_
      refine ⟨trivial, ?_⟩
      refine wpAnyH_done (by kernel_rfl) ?_ _
      have ht := HTR.out w5 _ hs5 hb5 hk5
      clear hs5 hb5 hk5 h5 c5 f5
      go_end0
      first | exact ⟨rfl, ht⟩ | exact ht
    · refine run_at (w' := w.drew) (some 15) (.slice la L.length lc) rfl rfl rfl (by have := c2; go_simp) ?_
      refine ⟨trivial, ?_⟩
      try simp only [Act.put, List.setIfInBounds_toArray, List.set_cons_zero, List.set_cons_succ]
      refine take_at 14 (some 16) (.int .i64 L.length) rfl rfl (by kernel_rfl) (by kernel_rfl) (by kernel_rfl) (fun _ _ _ h => h) (.inl ⟨by rfl, fun w' hS => ?_⟩) trivial ?_
      · go_simp
      try simp only [Act.put, List.setIfInBounds_toArray, List.set_cons_zero, List.set_cons_succ]
      refine wpAnyH_all (rs := [8]) (by kernel_rfl) (by simp) ?_
      intro i8 hi8
      obtain rfl : i8 = 8 := by simpa using hi8
      refine run_at (w' := w.drew) (some 10) (.slice pa P.length pc) rfl rfl rfl (by have := c3; go_simp) ?_
      refine ⟨trivial, ?_⟩
      try simp only [Act.put, List.setIfInBounds_toArray, List.set_cons_zero, List.set_cons_succ]
      refine take_at 9 (some 11) (.int .i64 P.length) rfl rfl (by kernel_rfl) (by kernel_rfl) (by kernel_rfl) (fun _ _ _ h => h) (.inl ⟨by rfl, fun w' hS => ?_⟩) trivial ?_
      · go_simp
      try simp only [Act.put, List.setIfInBounds_toArray, List.set_cons_zero, List.set_cons_succ]
      refine take_at 15 (some 17) (.int .i64 ((P.length : Int) - L.length)) rfl rfl (by kernel_rfl) (by kernel_rfl) (by kernel_rfl) (fun _ _ _ h => h) (.inl ⟨by rfl, fun w' hS => ?_⟩) trivial ?_
      · go_simp
      try simp only [Act.put, List.setIfInBounds_toArray, List.set_cons_zero, List.set_cons_succ]
      refine take_at 16 (some 18) (.int .i64 ((P.length : Int) - L.length - 16)) rfl rfl (by kernel_rfl) (by kernel_rfl) (by kernel_rfl) (fun _ _ _ h => h) (.inl ⟨by rfl, fun w' hS => ?_⟩) trivial ?_
      · go_simp
      try simp only [Act.put, List.setIfInBounds_toArray, List.set_cons_zero, List.set_cons_succ]
      refine take_at 17 (some 19) (.int .i64 n) rfl rfl (by kernel_rfl) (by kernel_rfl) (by kernel_rfl) (fun _ _ _ h => h) (.inl ⟨by rfl, fun w' hS => ?_⟩) trivial ?_
      · go_simp
      try simp only [Act.put, List.setIfInBounds_toArray, List.set_cons_zero, List.set_cons_succ]
      refine wpAnyH_all (rs := [18]) (by kernel_rfl) (by simp) ?_
      intro i18 hi18
      obtain rfl : i18 = 18 := by simpa using hi18
      refine call_atG (some 20) rfl rfl rfl 46 #[.slice pa P.length pc, .int .i64 0, .int .i64 n] ?_ ?_
      · go_simp
      refine HDEL.out.mono ?_
      rintro e w5 ⟨va, vn, vc, rfl, hs5, hk5, hb5⟩
      have h5 := (HD.out.blk.drew.keeps hk5 (fun e => by have := HD.out.rp _ e; have := H.out.rr; omega))
      have c5 := h5.cell (j := 3) rfl
      have f5 := h5.frozen 3
      refine ⟨_, rfl, trivial, ?_⟩
      try simp only [Act.put, List.setIfInBounds_toArray, List.set_cons_zero, List.set_cons_succ]
      refine take_at 19 (some 21) (.pointer (some ⟨r, 0, none⟩)) rfl rfl (by kernel_rfl) (by kernel_rfl) (by kernel_rfl) (fun _ _ _ h => h) (.inl ⟨by rfl, fun w' hS => ?_⟩) trivial ?_
      · go_simp
      try simp only [Act.put, List.setIfInBounds_toArray, List.set_cons_zero, List.set_cons_succ]
      refine take_at 20 (some 22) (.pointer (some ⟨r, 3, none⟩)) rfl rfl (by kernel_rfl) (by kernel_rfl) (by kernel_rfl) (fun _ _ _ h => h) (.inl ⟨by rfl, fun w' hS => ?_⟩) trivial ?_
      · go_simp
      try simp only [Act.put, List.setIfInBounds_toArray, List.set_cons_zero, List.set_cons_succ]
      refine wpAnyH_all (rs := [21]) (by kernel_rfl) (by simp) ?_
      intro i21 hi21
      obtain rfl : i21 = 21 := by simpa using hi21
      refine skip_at (w' := w5.setCell ⟨r, 3, none⟩ (.slice va vn vc)) rfl rfl (by go_simp) ?_
      refine ⟨trivial, ?_⟩
      refine wpAnyH_done (by kernel_rfl) ?_ _
      have ht := HTR.out w5 _ hs5 hb5 hk5
      clear hs5 hb5 hk5 h5 c5 f5
      go_end0
      first | exact ⟨rfl, ht⟩ | exact ht
  · refine run_at (w' := w.drew) (some 10) (.slice pa P.length pc) rfl rfl rfl (by have := c3; go_simp) ?_
    refine ⟨trivial, ?_⟩
    try simp only [Act.put, List.setIfInBounds_toArray, List.set_cons_zero, List.set_cons_succ]
    refine take_at 9 (some 11) (.int .i64 P.length) rfl rfl (by kernel_rfl) (by kernel_rfl) (by kernel_rfl) (fun _ _ _ h => h) (.inl ⟨by rfl, fun w' hS => ?_⟩) trivial ?_
    · go_simp
    try simp only [Act.put, List.setIfInBounds_toArray, List.set_cons_zero, List.set_cons_succ]
    refine wpAnyH_all (rs := [4, 13]) (by kernel_rfl) (by simp) ?_
    intro ix hix
    have hor : ix = 4 ∨ ix = 13 := by simpa using hix
    clear hix
    rcases hor with rfl | rfl
    · refine run_at (w' := w.drew) (some 6) (.slice pa P.length pc) rfl rfl rfl (by have := c3; go_simp) ?_
      refine ⟨trivial, ?_⟩
      try simp only [Act.put, List.setIfInBounds_toArray, List.set_cons_zero, List.set_cons_succ]
      refine wpAnyH_all (rs := [13]) (by kernel_rfl) (by simp) ?_
      intro i13 hi13
      obtain rfl : i13 = 13 := by simpa using hi13
      refine run_at (w' := w.drew) (some 15) (.slice la L.length lc) rfl rfl rfl (by have := c2; go_simp) ?_
      refine ⟨trivial, ?_⟩
      try simp only [Act.put, List.setIfInBounds_toArray, List.set_cons_zero, List.set_cons_succ]
      refine take_at 14 (some 16) (.int .i64 L.length) rfl rfl (by kernel_rfl) (by kernel_rfl) (by kernel_rfl) (fun _ _ _ h => h) (.inl ⟨by rfl, fun w' hS => ?_⟩) trivial ?_
      · go_simp
      try simp only [Act.put, List.setIfInBounds_toArray, List.set_cons_zero, List.set_cons_succ]
      refine take_at 15 (some 17) (.int .i64 ((P.length : Int) - L.length)) rfl rfl (by kernel_rfl) (by kernel_rfl) (by kernel_rfl) (fun _ _ _ h => h) (.inl ⟨by rfl, fun w' hS => ?_⟩) trivial ?_
      · go_simp
      try simp only [Act.put, List.setIfInBounds_toArray, List.set_cons_zero, List.set_cons_succ]
      refine take_at 16 (some 18) (.int .i64 ((P.length : Int) - L.length - 16)) rfl rfl (by kernel_rfl) (by kernel_rfl) (by kernel_rfl) (fun _ _ _ h => h) (.inl ⟨by rfl, fun w' hS => ?_⟩) trivial ?_
      · go_simp
      try simp only [Act.put, List.setIfInBounds_toArray, List.set_cons_zero, List.set_cons_succ]
      refine take_at 17 (some 19) (.int .i64 n) rfl rfl (by kernel_rfl) (by kernel_rfl) (by kernel_rfl) (fun _ _ _ h => h) (.inl ⟨by rfl, fun w' hS => ?_⟩) trivial ?_
      · go_simp
      try simp only [Act.put, List.setIfInBounds_toArray, List.set_cons_zero, List.set_cons_succ]
      refine wpAnyH_all (rs := [18]) (by kernel_rfl) (by simp) ?_
      intro i18 hi18
      obtain rfl : i18 = 18 := by simpa using hi18
      refine call_atG (some 20) rfl rfl rfl 46 #[.slice pa P.length pc, .int .i64 0, .int .i64 n] ?_ ?_
      · go_simp
      refine HDEL.out.mono ?_
      rintro e w5 ⟨va, vn, vc, rfl, hs5, hk5, hb5⟩
      have h5 := (HD.out.blk.drew.keeps hk5 (fun e => by have := HD.out.rp _ e; have := H.out.rr; omega))
      have c5 := h5.cell (j := 3) rfl
      have f5 := h5.frozen 3
      refine ⟨_, rfl, trivial, ?_⟩
      try simp only [Act.put, List.setIfInBounds_toArray, List.set_cons_zero, List.set_cons_succ]
      refine take_at 19 (some 21) (.pointer (some ⟨r, 0, none⟩)) rfl rfl (by kernel_rfl) (by kernel_rfl) (by kernel_rfl) (fun _ _ _ h => h) (.inl ⟨by rfl, fun w' hS => ?_⟩) trivial ?_
      · go_simp
      try simp only [Act.put, List.setIfInBounds_toArray, List.set_cons_zero, List.set_cons_succ]
      refine take_at 20 (some 22) (.pointer (some ⟨r, 3, none⟩)) rfl rfl (by kernel_rfl) (by kernel_rfl) (by kernel_rfl) (fun _ _ _ h => h) (.inl ⟨by rfl, fun w' hS => ?_⟩) trivial ?_
      · go_simp
      try simp only [Act.put, List.setIfInBounds_toArray, List.set_cons_zero, List.set_cons_succ]
      refine wpAnyH_all (rs := [21]) (by kernel_rfl) (by simp) ?_
      intro i21 hi21
      obtain rfl : i21 = 21 := by simpa using hi21
      refine skip_at (w' := w5.setCell ⟨r, 3, none⟩ (.slice va vn vc)) rfl rfl (by go_simp) ?_
      refine ⟨trivial, ?_⟩
      refine wpAnyH_done (by kernel_rfl) ?_ _
      have ht := HTR.out w5 _ hs5 hb5 hk5
      clear hs5 hb5 hk5 h5 c5 f5
      go_end0
      first | exact ⟨rfl, ht⟩ | exact ht
    · refine run_at (w' := w.drew) (some 15) (.slice la L.length lc) rfl rfl rfl (by have := c2; go_simp) ?_
      refine ⟨trivial, ?_⟩
      try simp only [Act.put, List.setIfInBounds_toArray, List.set_cons_zero, List.set_cons_succ]
      refine take_at 14 (some 16) (.int .i64 L.length) rfl rfl (by kernel_rfl) (by kernel_rfl) (by kernel_rfl) (fun _ _ _ h => h) (.inl ⟨by rfl, fun w' hS => ?_⟩) trivial ?_
      · go_simp
      try simp only [Act.put, List.setIfInBounds_toArray, List.set_cons_zero, List.set_cons_succ]
      refine take_at 15 (some 17) (.int .i64 ((P.length : Int) - L.length)) rfl rfl (by kernel_rfl) (by kernel_rfl) (by kernel_rfl) (fun _ _ _ h => h) (.inl ⟨by rfl, fun w' hS => ?_⟩) trivial ?_
      · go_simp
      try simp only [Act.put, List.setIfInBounds_toArray, List.set_cons_zero, List.set_cons_succ]
      refine take_at 16 (some 18) (.int .i64 ((P.length : Int) - L.length - 16)) rfl rfl (by kernel_rfl) (by kernel_rfl) (by kernel_rfl) (fun _ _ _ h => h) (.inl ⟨by rfl, fun w' hS => ?_⟩) trivial ?_
      · go_simp
      try simp only [Act.put, List.setIfInBounds_toArray, List.set_cons_zero, List.set_cons_succ]
      refine take_at 17 (some 19) (.int .i64 n) rfl rfl (by kernel_rfl) (by kernel_rfl) (by kernel_rfl) (fun _ _ _ h => h) (.inl ⟨by rfl, fun w' hS => ?_⟩) trivial ?_
      · go_simp
      try simp only [Act.put, List.setIfInBounds_toArray, List.set_cons_zero, List.set_cons_succ]
      refine wpAnyH_all (rs := [4]) (by kernel_rfl) (by simp) ?_
      intro i4 hi4
      obtain rfl : i4 = 4 := by simpa using hi4
      refine run_at (w' := w.drew) (some 6) (.slice pa P.length pc) rfl rfl rfl (by have := c3; go_simp) ?_
      refine ⟨trivial, ?_⟩
      try simp only [Act.put, List.setIfInBounds_toArray, List.set_cons_zero, List.set_cons_succ]
      refine wpAnyH_all (rs := [18]) (by kernel_rfl) (by simp) ?_
      intro i18 hi18
      obtain rfl : i18 = 18 := by simpa using hi18
      refine call_atG (some 20) rfl rfl rfl 46 #[.slice pa P.length pc, .int .i64 0, .int .i64 n] ?_ ?_
      · go_simp
      refine HDEL.out.mono ?_
      rintro e w5 ⟨va, vn, vc, rfl, hs5, hk5, hb5⟩
      have h5 := (HD.out.blk.drew.keeps hk5 (fun e => by have := HD.out.rp _ e; have := H.out.rr; omega))
      have c5 := h5.cell (j := 3) rfl
      have f5 := h5.frozen 3
      refine ⟨_, rfl, trivial, ?_⟩
      try simp only [Act.put, List.setIfInBounds_toArray, List.set_cons_zero, List.set_cons_succ]
      refine take_at 19 (some 21) (.pointer (some ⟨r, 0, none⟩)) rfl rfl (by kernel_rfl) (by kernel_rfl) (by kernel_rfl) (fun _ _ _ h => h) (.inl ⟨by rfl, fun w' hS => ?_⟩) trivial ?_
      · go_simp
      try simp only [Act.put, List.setIfInBounds_toArray, List.set_cons_zero, List.set_cons_succ]
      refine take_at 20 (some 22) (.pointer (some ⟨r, 3, none⟩)) rfl rfl (by kernel_rfl) (by kernel_rfl) (by kernel_rfl) (fun _ _ _ h => h) (.inl ⟨by rfl, fun w' hS => ?_⟩) trivial ?_
      · go_simp
      try simp only [Act.put, List.setIfInBounds_toArray, List.set_cons_zero, List.set_cons_succ]
      refine wpAnyH_all (rs := [21]) (by kernel_rfl) (by simp) ?_
      intro i21 hi21
      obtain rfl : i21 = 21 := by simpa using hi21
      refine skip_at (w' := w5.setCell ⟨r, 3, none⟩ (.slice va vn vc)) rfl rfl (by go_simp) ?_
      refine ⟨trivial, ?_⟩
      refine wpAnyH_done (by kernel_rfl) ?_ _
      have ht := HTR.out w5 _ hs5 hb5 hk5
      clear hs5 hb5 hk5 h5 c5 f5
      go_end0
      first | exact ⟨rfl, ht⟩ | exact ht
  · refine run_at (w' := w.drew) (some 15) (.slice la L.length lc) rfl rfl rfl (by have := c2; go_simp) ?_
    refine ⟨trivial, ?_⟩
    try simp only [Act.put, List.setIfInBounds_toArray, List.set_cons_zero, List.set_cons_succ]
    refine take_at 14 (some 16) (.int .i64 L.length) rfl rfl (by kernel_rfl) (by kernel_rfl) (by kernel_rfl) (fun _ _ _ h => h) (.inl ⟨by rfl, fun w' hS => ?_⟩) trivial ?_
    · go_simp
    try simp only [Act.put, List.setIfInBounds_toArray, List.set_cons_zero, List.set_cons_succ]
    refine wpAnyH_all (rs := [4, 8]) (by kernel_rfl) (by simp) ?_
    intro ix hix
    have hor : ix = 4 ∨ ix = 8 := by simpa using hix
    clear hix
    rcases hor with rfl | rfl
    · refine run_at (w' := w.drew) (some 6) (.slice pa P.length pc) rfl rfl rfl (by have := c3; go_simp) ?_
      refine ⟨trivial, ?_⟩
      try simp only [Act.put, List.setIfInBounds_toArray, List.set_cons_zero, List.set_cons_succ]
      refine wpAnyH_all (rs := [8]) (by kernel_rfl) (by simp) ?_
      intro i8 hi8
      obtain rfl : i8 = 8 := by simpa using hi8
      refine run_at (w' := w.drew) (some 10) (.slice pa P.length pc) rfl rfl rfl (by have := c3; go_simp) ?_
      refine ⟨trivial, ?_⟩
      try simp only [Act.put, List.setIfInBounds_toArray, List.set_cons_zero, List.set_cons_succ]
      refine take_at 9 (some 11) (.int .i64 P.length) rfl rfl (by kernel_rfl) (by kernel_rfl) (by kernel_rfl) (fun _ _ _ h => h) (.inl ⟨by rfl, fun w' hS => ?_⟩) trivial ?_
      · go_simp
      try simp only [Act.put, List.setIfInBounds_toArray, List.set_cons_zero, List.set_cons_succ]
      refine take_at 15 (some 17) (.int .i64 ((P.length : Int) - L.length)) rfl rfl (by kernel_rfl) (by kernel_rfl) (by kernel_rfl) (fun _ _ _ h => h) (.inl ⟨by rfl, fun w' hS => ?_⟩) trivial ?_
      · go_simp
      try simp only [Act.put, List.setIfInBounds_toArray, List.set_cons_zero, List.set_cons_succ]
      refine take_at 16 (some 18) (.int .i64 ((P.length : Int) - L.length - 16)) rfl rfl (by kernel_rfl) (by kernel_rfl) (by kernel_rfl) (fun _ _ _ h => h) (.inl ⟨by rfl, fun w' hS => ?_⟩) trivial ?_
      · go_simp
      try simp only [Act.put, List.setIfInBounds_toArray, List.set_cons_zero, List.set_cons_succ]
      refine take_at 17 (some 19) (.int .i64 n) rfl rfl (by kernel_rfl) (by kernel_rfl) (by kernel_rfl) (fun _ _ _ h => h) (.inl ⟨by rfl, fun w' hS => ?_⟩) trivial ?_
      · go_simp
      try simp only [Act.put, List.setIfInBounds_toArray, List.set_cons_zero, List.set_cons_succ]
      refine wpAnyH_all (rs := [18]) (by kernel_rfl) (by simp) ?_
      intro i18 hi18
      obtain rfl : i18 = 18 := by simpa using hi18
      refine call_atG (some 20) rfl rfl rfl 46 #[.slice pa P.length pc, .int .i64 0, .int .i64 n] ?_ ?_
      · go_simp
      refine HDEL.out.mono ?_
      rintro e w5 ⟨va, vn, vc, rfl, hs5, hk5, hb5⟩
      have h5 := (HD.out.blk.drew.keeps hk5 (fun e => by have := HD.out.rp _ e; have := H.out.rr; omega))
      have c5 := h5.cell (j := 3) rfl
      have f5 := h5.frozen 3
      refine ⟨_, rfl, trivial, ?_⟩
      try simp only [Act.put, List.setIfInBounds_toArray, List.set_cons_zero, List.set_cons_succ]
      refine take_at 19 (some 21) (.pointer (some ⟨r, 0, none⟩)) rfl rfl (by kernel_rfl) (by kernel_rfl) (by kernel_rfl) (fun _ _ _ h => h) (.inl ⟨by rfl, fun w' hS => ?_⟩) trivial ?_
      · go_simp
      try simp only [Act.put, List.setIfInBounds_toArray, List.set_cons_zero, List.set_cons_succ]
      refine take_at 20 (some 22) (.pointer (some ⟨r, 3, none⟩)) rfl rfl (by kernel_rfl) (by kernel_rfl) (by kernel_rfl) (fun _ _ _ h => h) (.inl ⟨by rfl, fun w' hS => ?_⟩) trivial ?_
      · go_simp
      try simp only [Act.put, List.setIfInBounds_toArray, List.set_cons_zero, List.set_cons_succ]
      refine wpAnyH_all (rs := [21]) (by kernel_rfl) (by simp) ?_
      intro i21 hi21
      obtain rfl : i21 = 21 := by simpa using hi21
      refine skip_at (w' := w5.setCell ⟨r, 3, none⟩ (.slice va vn vc)) rfl rfl (by go_simp) ?_
      refine ⟨trivial, ?_⟩
      refine wpAnyH_done (by kernel_rfl) ?_ _
      have ht := HTR.out w5 _ hs5 hb5 hk5
      clear hs5 hb5 hk5 h5 c5 f5
      go_end0
      first | exact ⟨rfl, ht⟩ | exact ht
    · refine run_at (w' := w.drew) (some 10) (.slice pa P.length pc) rfl rfl rfl (by have := c3; go_simp) ?_
      refine ⟨trivial, ?_⟩
      try simp only [Act.put, List.setIfInBounds_toArray, List.set_cons_zero, List.set_cons_succ]
      refine take_at 9 (some 11) (.int .i64 P.length) rfl rfl (by kernel_rfl) (by kernel_rfl) (by kernel_rfl) (fun _ _ _ h => h) (.inl ⟨by rfl, fun w' hS => ?_⟩) trivial ?_
      · go_simp
      try simp only [Act.put, List.setIfInBounds_toArray, List.set_cons_zero, List.set_cons_succ]
      refine take_at 15 (some 17) (.int .i64 ((P.length : Int) - L.length)) rfl rfl (by kernel_rfl) (by kernel_rfl) (by kernel_rfl) (fun _ _ _ h => h) (.inl ⟨by rfl, fun w' hS => ?_⟩) trivial ?_
      · go_simp
      try simp only [Act.put, List.setIfInBounds_toArray, List.set_cons_zero, List.set_cons_succ]
      refine take_at 16 (some 18) (.int .i64 ((P.length : Int) - L.length - 16)) rfl rfl (by kernel_rfl) (by kernel_rfl) (by kernel_rfl) (fun _ _ _ h => h) (.inl ⟨by rfl, fun w' hS => ?_⟩) trivial ?_
      · go_simp
      try simp only [Act.put, List.setIfInBounds_toArray, List.set_cons_zero, List.set_cons_succ]
      refine take_at 17 (some 19) (.int .i64 n) rfl rfl (by kernel_rfl) (by kernel_rfl) (by kernel_rfl) (fun _ _ _ h => h) (.inl ⟨by rfl, fun w' hS => ?_⟩) trivial ?_
      · go_simp
      try simp only [Act.put, List.setIfInBounds_toArray, List.set_cons_zero, List.set_cons_succ]
      refine wpAnyH_all (rs := [4]) (by kernel_rfl) (by simp) ?_
      intro i4 hi4
      obtain rfl : i4 = 4 := by simpa using hi4
      refine run_at (w' := w.drew) (some 6) (.slice pa P.length pc) rfl rfl rfl (by have := c3; go_simp) ?_
      refine ⟨trivial, ?_⟩
      try simp only [Act.put, List.setIfInBounds_toArray, List.set_cons_zero, List.set_cons_succ]
      refine wpAnyH_all (rs := [18]) (by kernel_rfl) (by simp) ?_
      intro i18 hi18
      obtain rfl : i18 = 18 := by simpa using hi18
      refine call_atG (some 20) rfl rfl rfl 46 #[.slice pa P.length pc, .int .i64 0, .int .i64 n] ?_ ?_
      · go_simp
      refine HDEL.out.mono ?_
      rintro e w5 ⟨va, vn, vc, rfl, hs5, hk5, hb5⟩
      have h5 := (HD.out.blk.drew.keeps hk5 (fun e => by have := HD.out.rp _ e; have := H.out.rr; omega))
      have c5 := h5.cell (j := 3) rfl
      have f5 := h5.frozen 3
      refine ⟨_, rfl, trivial, ?_⟩
      try simp only [Act.put, List.setIfInBounds_toArray, List.set_cons_zero, List.set_cons_succ]
      refine take_at 19 (some 21) (.pointer (some ⟨r, 0, none⟩)) rfl rfl (by kernel_rfl) (by kernel_rfl) (by kernel_rfl) (fun _ _ _ h => h) (.inl ⟨by rfl, fun w' hS => ?_⟩) trivial ?_
      · go_simp
      try simp only [Act.put, List.setIfInBounds_toArray, List.set_cons_zero, List.set_cons_succ]
      refine take_at 20 (some 22) (.pointer (some ⟨r, 3, none⟩)) rfl rfl (by kernel_rfl) (by kernel_rfl) (by kernel_rfl) (fun _ _ _ h => h) (.inl ⟨by rfl, fun w' hS => ?_⟩) trivial ?_
      · go_simp
      try simp only [Act.put, List.setIfInBounds_toArray, List.set_cons_zero, List.set_cons_succ]
      refine wpAnyH_all (rs := [21]) (by kernel_rfl) (by simp) ?_
      intro i21 hi21
      obtain rfl : i21 = 21 := by simpa using hi21
      refine skip_at (w' := w5.setCell ⟨r, 3, none⟩ (.slice va vn vc)) rfl rfl (by go_simp) ?_
      refine ⟨trivial, ?_⟩
      refine wpAnyH_done (by kernel_rfl) ?_ _
      have ht := HTR.out w5 _ hs5 hb5 hk5
      clear hs5 hb5 hk5 h5 c5 f5
      go_end0
      first | exact ⟨rfl, ht⟩ | exact ht

set_option maxHeartbeats 2000000 in
theorem trim_deferred (u : FrameMode) (h : RamAt ro w r lim used L P X) (hn : L.length ≤ 1073741824) (hn2 : P.length ≤ 1073741824) :
    CallsD Try.prog 29 #[.pointer (some ⟨r, 0, none⟩)] u w fun e u' w' => u' = u ∧ (e = .returned (.tuple #[]) ∧ RamAt ro w' r lim used L (P.drop (trimN L P)) X ∧ Keeps (fun b => ro b ≠ 0) w w') := by
  obtain ⟨vl, vp, hd⟩ := h.head
  have hdel := Delete_pre w.drew vp P (trimN L P) (hd.sp.keeps (Keeps.drew (fun _ => False) _) (fun _ _ h => h)) (by unfold trimN; omega) hn2
  have hmax : ∀ W : World, (Builtin.max_ #[3, 3] 3 #[.int .i64 ((P.length : Int) - L.length - 16), .int .i64 0]).run Try.prog W = .ok (.int .i64 (trimN L P : Nat)) W := fun W => by
    rw [run_max_int]
    rw [show max ((P.length : Int) - L.length - 16) 0 = ((trimN L P : Nat) : Int) by unfold trimN; omega]
  have e1 : IntKind.i64.wrap ((P.length : Int) - L.length) = (P.length : Int) - L.length := by rw [IntKind.wrap_i64]; omega
  have e2 : IntKind.i64.wrap ((P.length : Int) - L.length - 16) = (P.length : Int) - L.length - 16 := by rw [IntKind.wrap_i64]; omega
  obtain ⟨la, lc, rfl, _⟩ := hd.sl.form
  obtain ⟨pa, pc, rfl, _⟩ := hd.sp.form
  have c2 : w.drew.cell? ⟨r, 2, none⟩ = some (.slice la L.length lc) := hd.blk.drew.cell (j := 2) rfl
  have c3 : w.drew.cell? ⟨r, 3, none⟩ = some (.slice pa P.length pc) := hd.blk.drew.cell (j := 3) rfl
  have hd5 : RamHead ro w.drew r lim used L P (.slice la L.length lc) (.slice pa P.length pc) := ⟨hd.blk.drew, hd.sl.keeps (Keeps.drew (fun _ => False) _) (fun _ _ h => h), hd.sp.keeps (Keeps.drew (fun _ => False) _) (fun _ _ h => h), hd.rl, hd.rp⟩
  have htr : ∀ (w5 : World) (v' : Value), SlO w5 v' 57 1 (P.drop (trimN L P)).length (cellsP (P.drop (trimN L P))) → blkOf v' = blkOf (.slice pa P.length pc) → Keeps (fun b => blkOf (.slice pa P.length pc) = some b) w.drew w5 → RamAt ro (w5.setCell ⟨r, 3, none⟩ v') r lim used L (P.drop (trimN L P)) X ∧ Keeps (fun b => ro b ≠ 0) w (w5.setCell ⟨r, 3, none⟩ v') := fun w5 v' h1 h2 h3 => by
    have ht := (h.below (Keeps.drew (fun _ => False) _)).trimmed hd5 h1 h2 h3
    exact ⟨ht.1, (Keeps.drew _ _).trans ht.2⟩
  have HTR := Lib.hid htr
  have H := Lib.hid h
  have HD := Lib.hid hd
  have HDEL := Lib.hid hdel
  generalize trimN L P = n at *
  clear h hd hdel hd5 htr
  go_enter_d Try.func29, Try.ntmps29
  go_wp2
  refine wp_region_held_drew (S := fun _ => True) (by kernel_rfl) trivial (fun _ => ?_)
  refine take_at 0 (some 2) (.pointer (some ⟨r, 0, none⟩)) rfl rfl (by kernel_rfl) (by kernel_rfl) (by kernel_rfl) (fun _ _ _ h => h) (.inl ⟨by rfl, fun w' hS => ?_⟩) trivial ?_
  · go_simp
  try simp only [Act.put, List.setIfInBounds_toArray, List.set_cons_zero, List.set_cons_succ]
  refine take_at 1 (some 3) (.pointer (some ⟨r, 0, none⟩)) rfl rfl (by kernel_rfl) (by kernel_rfl) (by kernel_rfl) (fun _ _ _ h => h) (.inl ⟨by rfl, fun w' hS => ?_⟩) trivial ?_
  · go_simp
  try simp only [Act.put, List.setIfInBounds_toArray, List.set_cons_zero, List.set_cons_succ]
  refine take_at 2 (some 4) (.pointer (some ⟨r, 0, none⟩)) rfl rfl (by kernel_rfl) (by kernel_rfl) (by kernel_rfl) (fun _ _ _ h => h) (.inl ⟨by rfl, fun w' hS => ?_⟩) trivial ?_
  · go_simp
  try simp only [Act.put, List.setIfInBounds_toArray, List.set_cons_zero, List.set_cons_succ]
  refine take_at 3 (some 5) (.pointer (some ⟨r, 3, none⟩)) rfl rfl (by kernel_rfl) (by kernel_rfl) (by kernel_rfl) (fun _ _ _ h => h) (.inl ⟨by rfl, fun w' hS => ?_⟩) trivial ?_
  · go_simp
  try simp only [Act.put, List.setIfInBounds_toArray, List.set_cons_zero, List.set_cons_succ]
  refine take_at 5 (some 7) (.pointer (some ⟨r, 0, none⟩)) rfl rfl (by kernel_rfl) (by kernel_rfl) (by kernel_rfl) (fun _ _ _ h => h) (.inl ⟨by rfl, fun w' hS => ?_⟩) trivial ?_
  · go_simp
  try simp only [Act.put, List.setIfInBounds_toArray, List.set_cons_zero, List.set_cons_succ]
  refine take_at 6 (some 8) (.pointer (some ⟨r, 0, none⟩)) rfl rfl (by kernel_rfl) (by kernel_rfl) (by kernel_rfl) (fun _ _ _ h => h) (.inl ⟨by rfl, fun w' hS => ?_⟩) trivial ?_
  · go_simp
  try simp only [Act.put, List.setIfInBounds_toArray, List.set_cons_zero, List.set_cons_succ]
  refine take_at 7 (some 9) (.pointer (some ⟨r, 3, none⟩)) rfl rfl (by kernel_rfl) (by kernel_rfl) (by kernel_rfl) (fun _ _ _ h => h) (.inl ⟨by rfl, fun w' hS => ?_⟩) trivial ?_
  · go_simp
  try simp only [Act.put, List.setIfInBounds_toArray, List.set_cons_zero, List.set_cons_succ]
  refine take_at 10 (some 12) (.pointer (some ⟨r, 0, none⟩)) rfl rfl (by kernel_rfl) (by kernel_rfl) (by kernel_rfl) (fun _ _ _ h => h) (.inl ⟨by rfl, fun w' hS => ?_⟩) trivial ?_
  · go_simp
  try simp only [Act.put, List.setIfInBounds_toArray, List.set_cons_zero, List.set_cons_succ]
  refine take_at 11 (some 13) (.pointer (some ⟨r, 0, none⟩)) rfl rfl (by kernel_rfl) (by kernel_rfl) (by kernel_rfl) (fun _ _ _ h => h) (.inl ⟨by rfl, fun w' hS => ?_⟩) trivial ?_
  · go_simp
  try simp only [Act.put, List.setIfInBounds_toArray, List.set_cons_zero, List.set_cons_succ]
  refine take_at 12 (some 14) (.pointer (some ⟨r, 2, none⟩)) rfl rfl (by kernel_rfl) (by kernel_rfl) (by kernel_rfl) (fun _ _ _ h => h) (.inl ⟨by rfl, fun w' hS => ?_⟩) trivial ?_
  · go_simp
  try simp only [Act.put, List.setIfInBounds_toArray, List.set_cons_zero, List.set_cons_succ]
  refine wpAnyH_all (rs := [4, 8, 13]) (by kernel_rfl) (by simp) ?_
  intro ix hix
  have hor : ix = 4 ∨ ix = 8 ∨ ix = 13 := by simpa using hix
  clear hix
  rcases hor with rfl | rfl | rfl
  · refine run_at (w' := w.drew) (some 6) (.slice pa P.length pc) rfl rfl rfl (by have := c3; go_simp) ?_
    refine ⟨trivial, ?_⟩
    try simp only [Act.put, List.setIfInBounds_toArray, List.set_cons_zero, List.set_cons_succ]
    refine wpAnyH_all (rs := [8, 13]) (by kernel_rfl) (by simp) ?_
    intro ix hix
    have hor : ix = 8 ∨ ix = 13 := by simpa using hix
    clear hix
    rcases hor with rfl | rfl
    · refine run_at (w' := w.drew) (some 10) (.slice pa P.length pc) rfl rfl rfl (by have := c3; go_simp) ?_
      refine ⟨trivial, ?_⟩
      try simp only [Act.put, List.setIfInBounds_toArray, List.set_cons_zero, List.set_cons_succ]
      refine take_at 9 (some 11) (.int .i64 P.length) rfl rfl (by kernel_rfl) (by kernel_rfl) (by kernel_rfl) (fun _ _ _ h => h) (.inl ⟨by rfl, fun w' hS => ?_⟩) trivial ?_
      · go_simp
      try simp only [Act.put, List.setIfInBounds_toArray, List.set_cons_zero, List.set_cons_succ]
      refine wpAnyH_all (rs := [13]) (by kernel_rfl) (by simp) ?_
      intro i13 hi13
      obtain rfl : i13 = 13 := by simpa using hi13
      refine run_at (w' := w.drew) (some 15) (.slice la L.length lc) rfl rfl rfl (by have := c2; go_simp) ?_
      refine ⟨trivial, ?_⟩
      try simp only [Act.put, List.setIfInBounds_toArray, List.set_cons_zero, List.set_cons_succ]
      refine take_at 14 (some 16) (.int .i64 L.length) rfl rfl (by kernel_rfl) (by kernel_rfl) (by kernel_rfl) (fun _ _ _ h => h) (.inl ⟨by rfl, fun w' hS => ?_⟩) trivial ?_
      · go_simp
      try simp only [Act.put, List.setIfInBounds_toArray, List.set_cons_zero, List.set_cons_succ]
      refine take_at 15 (some 17) (.int .i64 ((P.length : Int) - L.length)) rfl rfl (by kernel_rfl) (by kernel_rfl) (by kernel_rfl) (fun _ _ _ h => h) (.inl ⟨by rfl, fun w' hS => ?_⟩) trivial ?_
      · go_simp
      try simp only [Act.put, List.setIfInBounds_toArray, List.set_cons_zero, List.set_cons_succ]
      refine take_at 16 (some 18) (.int .i64 ((P.length : Int) - L.length - 16)) rfl rfl (by kernel_rfl) (by kernel_rfl) (by kernel_rfl) (fun _ _ _ h => h) (.inl ⟨by rfl, fun w' hS => ?_⟩) trivial ?_
      · go_simp
      try simp only [Act.put, List.setIfInBounds_toArray, List.set_cons_zero, List.set_cons_succ]
      refine take_at 17 (some 19) (.int .i64 n) rfl rfl (by kernel_rfl) (by kernel_rfl) (by kernel_rfl) (fun _ _ _ h => h) (.inl ⟨by rfl, fun w' hS => ?_⟩) trivial ?_
      · go_simp
      try simp only [Act.put, List.setIfInBounds_toArray, List.set_cons_zero, List.set_cons_succ]
      refine wpAnyH_all (rs := [18]) (by kernel_rfl) (by simp) ?_
      intro i18 hi18
      obtain rfl : i18 = 18 := by simpa using hi18
      refine call_atG (some 20) rfl rfl rfl 46 #[.slice pa P.length pc, .int .i64 0, .int .i64 n] ?_ ?_
      · go_simp
      refine HDEL.out.mono ?_
      rintro e w5 ⟨va, vn, vc, rfl, hs5, hk5, hb5⟩
      have h5 := (HD.out.blk.drew.keeps hk5 (fun e => by have := HD.out.rp _ e; have := H.out.rr; omega))
      have c5 := h5.cell (j := 3) rfl
      have f5 := h5.frozen 3
      refine ⟨_, rfl, trivial, ?_⟩
      try simp only [Act.put, List.setIfInBounds_toArray, List.set_cons_zero, List.set_cons_succ]
      refine take_at 19 (some 21) (.pointer (some ⟨r, 0, none⟩)) rfl rfl (by kernel_rfl) (by kernel_rfl) (by kernel_rfl) (fun _ _ _ h => h) (.inl ⟨by rfl, fun w' hS => ?_⟩) trivial ?_
      · go_simp
      try simp only [Act.put, List.setIfInBounds_toArray, List.set_cons_zero, List.set_cons_succ]
      refine take_at 20 (some 22) (.pointer (some ⟨r, 3, none⟩)) rfl rfl (by kernel_rfl) (by kernel_rfl) (by kernel_rfl) (fun _ _ _ h => h) (.inl ⟨by rfl, fun w' hS => ?_⟩) trivial ?_
      · go_simp
      try simp only [Act.put, List.setIfInBounds_toArray, List.set_cons_zero, List.set_cons_succ]
      refine wpAnyH_all (rs := [21]) (by kernel_rfl) (by simp) ?_
      intro i21 hi21
      obtain rfl : i21 = 21 := by simpa using hi21
      refine skip_at (w' := w5.setCell ⟨r, 3, none⟩ (.slice va vn vc)) rfl rfl (by go_simp) ?_
      refine ⟨trivial, ?_⟩
      refine wpAnyH_done (by kernel_rfl) ?_ _
      have ht := HTR.out w5 _ hs5 hb5 hk5
      clear hs5 hb5 hk5 h5 c5 f5
      go_end0
      first | exact ht | exact ⟨rfl, ht⟩ | exact ⟨rfl, rfl, ht⟩ | (trace_state; sorry)
    · refine run_at (w' := w.drew) (some 15) (.slice la L.length lc) rfl rfl rfl (by have := c2; go_simp) ?_
      refine ⟨trivial, ?_⟩
      try simp only [Act.put, List.setIfInBounds_toArray, List.set_cons_zero, List.set_cons_succ]
      refine take_at 14 (some 16) (.int .i64 L.length) rfl rfl (by kernel_rfl) (by kernel_rfl) (by kernel_rfl) (fun _ _ _ h => h) (.inl ⟨by rfl, fun w' hS => ?_⟩) trivial ?_
      · go_simp
      try simp only [Act.put, List.setIfInBounds_toArray, List.set_cons_zero, List.set_cons_succ]
      refine wpAnyH_all (rs := [8]) (by kernel_rfl) (by simp) ?_
      intro i8 hi8
      obtain rfl : i8 = 8 := by simpa using hi8
      refine run_at (w' := w.drew) (some 10) (.slice pa P.length pc) rfl rfl rfl (by have := c3; go_simp) ?_
      refine ⟨trivial, ?_⟩
      try simp only [Act.put, List.setIfInBounds_toArray, List.set_cons_zero, List.set_cons_succ]
      refine take_at 9 (some 11) (.int .i64 P.length) rfl rfl (by kernel_rfl) (by kernel_rfl) (by kernel_rfl) (fun _ _ _ h => h) (.inl ⟨by rfl, fun w' hS => ?_⟩) trivial ?_
      · go_simp
      try simp only [Act.put, List.setIfInBounds_toArray, List.set_cons_zero, List.set_cons_succ]
      refine take_at 15 (some 17) (.int .i64 ((P.length : Int) - L.length)) rfl rfl (by kernel_rfl) (by kernel_rfl) (by kernel_rfl) (fun _ _ _ h => h) (.inl ⟨by rfl, fun w' hS => ?_⟩) trivial ?_
      · go_simp
      try simp only [Act.put, List.setIfInBounds_toArray, List.set_cons_zero, List.set_cons_succ]
      refine take_at 16 (some 18) (.int .i64 ((P.length : Int) - L.length - 16)) rfl rfl (by kernel_rfl) (by kernel_rfl) (by kernel_rfl) (fun _ _ _ h => h) (.inl ⟨by rfl, fun w' hS => ?_⟩) trivial ?_
      · go_simp
      try simp only [Act.put, List.setIfInBounds_toArray, List.set_cons_zero, List.set_cons_succ]
      refine take_at 17 (some 19) (.int .i64 n) rfl rfl (by kernel_rfl) (by kernel_rfl) (by kernel_rfl) (fun _ _ _ h => h) (.inl ⟨by rfl, fun w' hS => ?_⟩) trivial ?_
      · go_simp
      try simp only [Act.put, List.setIfInBounds_toArray, List.set_cons_zero, List.set_cons_succ]
      refine wpAnyH_all (rs := [18]) (by kernel_rfl) (by simp) ?_
      intro i18 hi18
      obtain rfl : i18 = 18 := by simpa using hi18
      refine call_atG (some 20) rfl rfl rfl 46 #[.slice pa P.length pc, .int .i64 0, .int .i64 n] ?_ ?_
      · go_simp
      refine HDEL.out.mono ?_
      rintro e w5 ⟨va, vn, vc, rfl, hs5, hk5, hb5⟩
      have h5 := (HD.out.blk.drew.keeps hk5 (fun e => by have := HD.out.rp _ e; have := H.out.rr; omega))
      have c5 := h5.cell (j := 3) rfl
      have f5 := h5.frozen 3
      refine ⟨_, rfl, trivial, ?_⟩
      try simp only [Act.put, List.setIfInBounds_toArray, List.set_cons_zero, List.set_cons_succ]
      refine take_at 19 (some 21) (.pointer (some ⟨r, 0, none⟩)) rfl rfl (by kernel_rfl) (by kernel_rfl) (by kernel_rfl) (fun _ _ _ h => h) (.inl ⟨by rfl, fun w' hS => ?_⟩) trivial ?_
      · go_simp
      try simp only [Act.put, List.setIfInBounds_toArray, List.set_cons_zero, List.set_cons_succ]
      refine take_at 20 (some 22) (.pointer (some ⟨r, 3, none⟩)) rfl rfl (by kernel_rfl) (by kernel_rfl) (by kernel_rfl) (fun _ _ _ h => h) (.inl ⟨by rfl, fun w' hS => ?_⟩) trivial ?_
      · go_simp
      try simp only [Act.put, List.setIfInBounds_toArray, List.set_cons_zero, List.set_cons_succ]
      refine wpAnyH_all (rs := [21]) (by kernel_rfl) (by simp) ?_
      intro i21 hi21
      obtain rfl : i21 = 21 := by simpa using hi21
      refine skip_at (w' := w5.setCell ⟨r, 3, none⟩ (.slice va vn vc)) rfl rfl (by go_simp) ?_
      refine ⟨trivial, ?_⟩
      refine wpAnyH_done (by kernel_rfl) ?_ _
      have ht := HTR.out w5 _ hs5 hb5 hk5
      clear hs5 hb5 hk5 h5 c5 f5
      go_end0
      first | exact ht | exact ⟨rfl, ht⟩ | exact ⟨rfl, rfl, ht⟩ | (trace_state; sorry)
  · refine run_at (w' := w.drew) (some 10) (.slice pa P.length pc) rfl rfl rfl (by have := c3; go_simp) ?_
    refine ⟨trivial, ?_⟩
    try simp only [Act.put, List.setIfInBounds_toArray, List.set_cons_zero, List.set_cons_succ]
    refine take_at 9 (some 11) (.int .i64 P.length) rfl rfl (by kernel_rfl) (by kernel_rfl) (by kernel_rfl) (fun _ _ _ h => h) (.inl ⟨by rfl, fun w' hS => ?_⟩) trivial ?_
    · go_simp
    try simp only [Act.put, List.setIfInBounds_toArray, List.set_cons_zero, List.set_cons_succ]
    refine wpAnyH_all (rs := [4, 13]) (by kernel_rfl) (by simp) ?_
    intro ix hix
    have hor : ix = 4 ∨ ix = 13 := by simpa using hix
    clear hix
    rcases hor with rfl | rfl
    · refine run_at (w' := w.drew) (some 6) (.slice pa P.length pc) rfl rfl rfl (by have := c3; go_simp) ?_
      refine ⟨trivial, ?_⟩
      try simp only [Act.put, List.setIfInBounds_toArray, List.set_cons_zero, List.set_cons_succ]
      refine wpAnyH_all (rs := [13]) (by kernel_rfl) (by simp) ?_
      intro i13 hi13
      obtain rfl : i13 = 13 := by simpa using hi13
      refine run_at (w' := w.drew) (some 15) (.slice la L.length lc) rfl rfl rfl (by have := c2; go_simp) ?_
      refine ⟨trivial, ?_⟩
      try simp only [Act.put, List.setIfInBounds_toArray, List.set_cons_zero, List.set_cons_succ]
      refine take_at 14 (some 16) (.int .i64 L.length) rfl rfl (by kernel_rfl) (by kernel_rfl) (by kernel_rfl) (fun _ _ _ h => h) (.inl ⟨by rfl, fun w' hS => ?_⟩) trivial ?_
      · go_simp
      try simp only [Act.put, List.setIfInBounds_toArray, List.set_cons_zero, List.set_cons_succ]
      refine take_at 15 (some 17) (.int .i64 ((P.length : Int) - L.length)) rfl rfl (by kernel_rfl) (by kernel_rfl) (by kernel_rfl) (fun _ _ _ h => h) (.inl ⟨by rfl, fun w' hS => ?_⟩) trivial ?_
      · go_simp
      try simp only [Act.put, List.setIfInBounds_toArray, List.set_cons_zero, List.set_cons_succ]
      refine take_at 16 (some 18) (.int .i64 ((P.length : Int) - L.length - 16)) rfl rfl (by kernel_rfl) (by kernel_rfl) (by kernel_rfl) (fun _ _ _ h => h) (.inl ⟨by rfl, fun w' hS => ?_⟩) trivial ?_
      · go_simp
      try simp only [Act.put, List.setIfInBounds_toArray, List.set_cons_zero, List.set_cons_succ]
      refine take_at 17 (some 19) (.int .i64 n) rfl rfl (by kernel_rfl) (by kernel_rfl) (by kernel_rfl) (fun _ _ _ h => h) (.inl ⟨by rfl, fun w' hS => ?_⟩) trivial ?_
      · go_simp
      try simp only [Act.put, List.setIfInBounds_toArray, List.set_cons_zero, List.set_cons_succ]
      refine wpAnyH_all (rs := [18]) (by kernel_rfl) (by simp) ?_
      intro i18 hi18
      obtain rfl : i18 = 18 := by simpa using hi18
      refine call_atG (some 20) rfl rfl rfl 46 #[.slice pa P.length pc, .int .i64 0, .int .i64 n] ?_ ?_
      · go_simp
      refine HDEL.out.mono ?_
      rintro e w5 ⟨va, vn, vc, rfl, hs5, hk5, hb5⟩
      have h5 := (HD.out.blk.drew.keeps hk5 (fun e => by have := HD.out.rp _ e; have := H.out.rr; omega))
      have c5 := h5.cell (j := 3) rfl
      have f5 := h5.frozen 3
      refine ⟨_, rfl, trivial, ?_⟩
      try simp only [Act.put, List.setIfInBounds_toArray, List.set_cons_zero, List.set_cons_succ]
      refine take_at 19 (some 21) (.pointer (some ⟨r, 0, none⟩)) rfl rfl (by kernel_rfl) (by kernel_rfl) (by kernel_rfl) (fun _ _ _ h => h) (.inl ⟨by rfl, fun w' hS => ?_⟩) trivial ?_
      · go_simp
      try simp only [Act.put, List.setIfInBounds_toArray, List.set_cons_zero, List.set_cons_succ]
      refine take_at 20 (some 22) (.pointer (some ⟨r, 3, none⟩)) rfl rfl (by kernel_rfl) (by kernel_rfl) (by kernel_rfl) (fun _ _ _ h => h) (.inl ⟨by rfl, fun w' hS => ?_⟩) trivial ?_
      · go_simp
      try simp only [Act.put, List.setIfInBounds_toArray, List.set_cons_zero, List.set_cons_succ]
      refine wpAnyH_all (rs := [21]) (by kernel_rfl) (by simp) ?_
      intro i21 hi21
      obtain rfl : i21 = 21 := by simpa using hi21
      refine skip_at (w' := w5.setCell ⟨r, 3, none⟩ (.slice va vn vc)) rfl rfl (by go_simp) ?_
      refine ⟨trivial, ?_⟩
      refine wpAnyH_done (by kernel_rfl) ?_ _
      have ht := HTR.out w5 _ hs5 hb5 hk5
      clear hs5 hb5 hk5 h5 c5 f5
      go_end0
      first | exact ht | exact ⟨rfl, ht⟩ | exact ⟨rfl, rfl, ht⟩ | (trace_state; sorry)
    · refine run_at (w' := w.drew) (some 15) (.slice la L.length lc) rfl rfl rfl (by have := c2; go_simp) ?_
      refine ⟨trivial, ?_⟩
      try simp only [Act.put, List.setIfInBounds_toArray, List.set_cons_zero, List.set_cons_succ]
      refine take_at 14 (some 16) (.int .i64 L.length) rfl rfl (by kernel_rfl) (by kernel_rfl) (by kernel_rfl) (fun _ _ _ h => h) (.inl ⟨by rfl, fun w' hS => ?_⟩) trivial ?_
      · go_simp
      try simp only [Act.put, List.setIfInBounds_toArray, List.set_cons_zero, List.set_cons_succ]
      refine take_at 15 (some 17) (.int .i64 ((P.length : Int) - L.length)) rfl rfl (by kernel_rfl) (by kernel_rfl) (by kernel_rfl) (fun _ _ _ h => h) (.inl ⟨by rfl, fun w' hS => ?_⟩) trivial ?_
      · go_simp
      try simp only [Act.put, List.setIfInBounds_toArray, List.set_cons_zero, List.set_cons_succ]
      refine take_at 16 (some 18) (.int .i64 ((P.length : Int) - L.length - 16)) rfl rfl (by kernel_rfl) (by kernel_rfl) (by kernel_rfl) (fun _ _ _ h => h) (.inl ⟨by rfl, fun w' hS => ?_⟩) trivial ?_
      · go_simp
      try simp only [Act.put, List.setIfInBounds_toArray, List.set_cons_zero, List.set_cons_succ]
      refine take_at 17 (some 19) (.int .i64 n) rfl rfl (by kernel_rfl) (by kernel_rfl) (by kernel_rfl) (fun _ _ _ h => h) (.inl ⟨by rfl, fun w' hS => ?_⟩) trivial ?_
      · go_simp
      try simp only [Act.put, List.setIfInBounds_toArray, List.set_cons_zero, List.set_cons_succ]
      refine wpAnyH_all (rs := [4]) (by kernel_rfl) (by simp) ?_
      intro i4 hi4
      obtain rfl : i4 = 4 := by simpa using hi4
      refine run_at (w' := w.drew) (some 6) (.slice pa P.length pc) rfl rfl rfl (by have := c3; go_simp) ?_
      refine ⟨trivial, ?_⟩
      try simp only [Act.put, List.setIfInBounds_toArray, List.set_cons_zero, List.set_cons_succ]
      refine wpAnyH_all (rs := [18]) (by kernel_rfl) (by simp) ?_
      intro i18 hi18
      obtain rfl : i18 = 18 := by simpa using hi18
      refine call_atG (some 20) rfl rfl rfl 46 #[.slice pa P.length pc, .int .i64 0, .int .i64 n] ?_ ?_
      · go_simp
      refine HDEL.out.mono ?_
      rintro e w5 ⟨va, vn, vc, rfl, hs5, hk5, hb5⟩
      have h5 := (HD.out.blk.drew.keeps hk5 (fun e => by have := HD.out.rp _ e; have := H.out.rr; omega))
      have c5 := h5.cell (j := 3) rfl
      have f5 := h5.frozen 3
      refine ⟨_, rfl, trivial, ?_⟩
      try simp only [Act.put, List.setIfInBounds_toArray, List.set_cons_zero, List.set_cons_succ]
      refine take_at 19 (some 21) (.pointer (some ⟨r, 0, none⟩)) rfl rfl (by kernel_rfl) (by kernel_rfl) (by kernel_rfl) (fun _ _ _ h => h) (.inl ⟨by rfl, fun w' hS => ?_⟩) trivial ?_
      · go_simp
      try simp only [Act.put, List.setIfInBounds_toArray, List.set_cons_zero, List.set_cons_succ]
      refine take_at 20 (some 22) (.pointer (some ⟨r, 3, none⟩)) rfl rfl (by kernel_rfl) (by kernel_rfl) (by kernel_rfl) (fun _ _ _ h => h) (.inl ⟨by rfl, fun w' hS => ?_⟩) trivial ?_
      · go_simp
      try simp only [Act.put, List.setIfInBounds_toArray, List.set_cons_zero, List.set_cons_succ]
      refine wpAnyH_all (rs := [21]) (by kernel_rfl) (by simp) ?_
      intro i21 hi21
      obtain rfl : i21 = 21 := by simpa using hi21
      refine skip_at (w' := w5.setCell ⟨r, 3, none⟩ (.slice va vn vc)) rfl rfl (by go_simp) ?_
      refine ⟨trivial, ?_⟩
      refine wpAnyH_done (by kernel_rfl) ?_ _
      have ht := HTR.out w5 _ hs5 hb5 hk5
      clear hs5 hb5 hk5 h5 c5 f5
      go_end0
      first | exact ht | exact ⟨rfl, ht⟩ | exact ⟨rfl, rfl, ht⟩ | (trace_state; sorry)
  · refine run_at (w' := w.drew) (some 15) (.slice la L.length lc) rfl rfl rfl (by have := c2; go_simp) ?_
    refine ⟨trivial, ?_⟩
    try simp only [Act.put, List.setIfInBounds_toArray, List.set_cons_zero, List.set_cons_succ]
    refine take_at 14 (some 16) (.int .i64 L.length) rfl rfl (by kernel_rfl) (by kernel_rfl) (by kernel_rfl) (fun _ _ _ h => h) (.inl ⟨by rfl, fun w' hS => ?_⟩) trivial ?_
    · go_simp
    try simp only [Act.put, List.setIfInBounds_toArray, List.set_cons_zero, List.set_cons_succ]
    refine wpAnyH_all (rs := [4, 8]) (by kernel_rfl) (by simp) ?_
    intro ix hix
    have hor : ix = 4 ∨ ix = 8 := by simpa using hix
    clear hix
    rcases hor with rfl | rfl
    · refine run_at (w' := w.drew) (some 6) (.slice pa P.length pc) rfl rfl rfl (by have := c3; go_simp) ?_
      refine ⟨trivial, ?_⟩
      try simp only [Act.put, List.setIfInBounds_toArray, List.set_cons_zero, List.set_cons_succ]
      refine wpAnyH_all (rs := [8]) (by kernel_rfl) (by simp) ?_
      intro i8 hi8
      obtain rfl : i8 = 8 := by simpa using hi8
      refine run_at (w' := w.drew) (some 10) (.slice pa P.length pc) rfl rfl rfl (by have := c3; go_simp) ?_
      refine ⟨trivial, ?_⟩
      try simp only [Act.put, List.setIfInBounds_toArray, List.set_cons_zero, List.set_cons_succ]
      refine take_at 9 (some 11) (.int .i64 P.length) rfl rfl (by kernel_rfl) (by kernel_rfl) (by kernel_rfl) (fun _ _ _ h => h) (.inl ⟨by rfl, fun w' hS => ?_⟩) trivial ?_
      · go_simp
      try simp only [Act.put, List.setIfInBounds_toArray, List.set_cons_zero, List.set_cons_succ]
      refine take_at 15 (some 17) (.int .i64 ((P.length : Int) - L.length)) rfl rfl (by kernel_rfl) (by kernel_rfl) (by kernel_rfl) (fun _ _ _ h => h) (.inl ⟨by rfl, fun w' hS => ?_⟩) trivial ?_
      · go_simp
      try simp only [Act.put, List.setIfInBounds_toArray, List.set_cons_zero, List.set_cons_succ]
      refine take_at 16 (some 18) (.int .i64 ((P.length : Int) - L.length - 16)) rfl rfl (by kernel_rfl) (by kernel_rfl) (by kernel_rfl) (fun _ _ _ h => h) (.inl ⟨by rfl, fun w' hS => ?_⟩) trivial ?_
      · go_simp
      try simp only [Act.put, List.setIfInBounds_toArray, List.set_cons_zero, List.set_cons_succ]
      refine take_at 17 (some 19) (.int .i64 n) rfl rfl (by kernel_rfl) (by kernel_rfl) (by kernel_rfl) (fun _ _ _ h => h) (.inl ⟨by rfl, fun w' hS => ?_⟩) trivial ?_
      · go_simp
      try simp only [Act.put, List.setIfInBounds_toArray, List.set_cons_zero, List.set_cons_succ]
      refine wpAnyH_all (rs := [18]) (by kernel_rfl) (by simp) ?_
      intro i18 hi18
      obtain rfl : i18 = 18 := by simpa using hi18
      refine call_atG (some 20) rfl rfl rfl 46 #[.slice pa P.length pc, .int .i64 0, .int .i64 n] ?_ ?_
      · go_simp
      refine HDEL.out.mono ?_
      rintro e w5 ⟨va, vn, vc, rfl, hs5, hk5, hb5⟩
      have h5 := (HD.out.blk.drew.keeps hk5 (fun e => by have := HD.out.rp _ e; have := H.out.rr; omega))
      have c5 := h5.cell (j := 3) rfl
      have f5 := h5.frozen 3
      refine ⟨_, rfl, trivial, ?_⟩
      try simp only [Act.put, List.setIfInBounds_toArray, List.set_cons_zero, List.set_cons_succ]
      refine take_at 19 (some 21) (.pointer (some ⟨r, 0, none⟩)) rfl rfl (by kernel_rfl) (by kernel_rfl) (by kernel_rfl) (fun _ _ _ h => h) (.inl ⟨by rfl, fun w' hS => ?_⟩) trivial ?_
      · go_simp
      try simp only [Act.put, List.setIfInBounds_toArray, List.set_cons_zero, List.set_cons_succ]
      refine take_at 20 (some 22) (.pointer (some ⟨r, 3, none⟩)) rfl rfl (by kernel_rfl) (by kernel_rfl) (by kernel_rfl) (fun _ _ _ h => h) (.inl ⟨by rfl, fun w' hS => ?_⟩) trivial ?_
      · go_simp
      try simp only [Act.put, List.setIfInBounds_toArray, List.set_cons_zero, List.set_cons_succ]
      refine wpAnyH_all (rs := [21]) (by kernel_rfl) (by simp) ?_
      intro i21 hi21
      obtain rfl : i21 = 21 := by simpa using hi21
      refine skip_at (w' := w5.setCell ⟨r, 3, none⟩ (.slice va vn vc)) rfl rfl (by go_simp) ?_
      refine ⟨trivial, ?_⟩
      refine wpAnyH_done (by kernel_rfl) ?_ _
      have ht := HTR.out w5 _ hs5 hb5 hk5
      clear hs5 hb5 hk5 h5 c5 f5
      go_end0
      first | exact ht | exact ⟨rfl, ht⟩ | exact ⟨rfl, rfl, ht⟩ | (trace_state; sorry)
    · refine run_at (w' := w.drew) (some 10) (.slice pa P.length pc) rfl rfl rfl (by have := c3; go_simp) ?_
      refine ⟨trivial, ?_⟩
      try simp only [Act.put, List.setIfInBounds_toArray, List.set_cons_zero, List.set_cons_succ]
      refine take_at 9 (some 11) (.int .i64 P.length) rfl rfl (by kernel_rfl) (by kernel_rfl) (by kernel_rfl) (fun _ _ _ h => h) (.inl ⟨by rfl, fun w' hS => ?_⟩) trivial ?_
      · go_simp
      try simp only [Act.put, List.setIfInBounds_toArray, List.set_cons_zero, List.set_cons_succ]
      refine take_at 15 (some 17) (.int .i64 ((P.length : Int) - L.length)) rfl rfl (by kernel_rfl) (by kernel_rfl) (by kernel_rfl) (fun _ _ _ h => h) (.inl ⟨by rfl, fun w' hS => ?_⟩) trivial ?_
      · go_simp
      try simp only [Act.put, List.setIfInBounds_toArray, List.set_cons_zero, List.set_cons_succ]
      refine take_at 16 (some 18) (.int .i64 ((P.length : Int) - L.length - 16)) rfl rfl (by kernel_rfl) (by kernel_rfl) (by kernel_rfl) (fun _ _ _ h => h) (.inl ⟨by rfl, fun w' hS => ?_⟩) trivial ?_
      · go_simp
      try simp only [Act.put, List.setIfInBounds_toArray, List.set_cons_zero, List.set_cons_succ]
      refine take_at 17 (some 19) (.int .i64 n) rfl rfl (by kernel_rfl) (by kernel_rfl) (by kernel_rfl) (fun _ _ _ h => h) (.inl ⟨by rfl, fun w' hS => ?_⟩) trivial ?_
      · go_simp
      try simp only [Act.put, List.setIfInBounds_toArray, List.set_cons_zero, List.set_cons_succ]
      refine wpAnyH_all (rs := [4]) (by kernel_rfl) (by simp) ?_
      intro i4 hi4
      obtain rfl : i4 = 4 := by simpa using hi4
      refine run_at (w' := w.drew) (some 6) (.slice pa P.length pc) rfl rfl rfl (by have := c3; go_simp) ?_
      refine ⟨trivial, ?_⟩
      try simp only [Act.put, List.setIfInBounds_toArray, List.set_cons_zero, List.set_cons_succ]
      refine wpAnyH_all (rs := [18]) (by kernel_rfl) (by simp) ?_
      intro i18 hi18
      obtain rfl : i18 = 18 := by simpa using hi18
      refine call_atG (some 20) rfl rfl rfl 46 #[.slice pa P.length pc, .int .i64 0, .int .i64 n] ?_ ?_
      · go_simp
      refine HDEL.out.mono ?_
      rintro e w5 ⟨va, vn, vc, rfl, hs5, hk5, hb5⟩
      have h5 := (HD.out.blk.drew.keeps hk5 (fun e => by have := HD.out.rp _ e; have := H.out.rr; omega))
      have c5 := h5.cell (j := 3) rfl
      have f5 := h5.frozen 3
      refine ⟨_, rfl, trivial, ?_⟩
      try simp only [Act.put, List.setIfInBounds_toArray, List.set_cons_zero, List.set_cons_succ]
      refine take_at 19 (some 21) (.pointer (some ⟨r, 0, none⟩)) rfl rfl (by kernel_rfl) (by kernel_rfl) (by kernel_rfl) (fun _ _ _ h => h) (.inl ⟨by rfl, fun w' hS => ?_⟩) trivial ?_
      · go_simp
      try simp only [Act.put, List.setIfInBounds_toArray, List.set_cons_zero, List.set_cons_succ]
      refine take_at 20 (some 22) (.pointer (some ⟨r, 3, none⟩)) rfl rfl (by kernel_rfl) (by kernel_rfl) (by kernel_rfl) (fun _ _ _ h => h) (.inl ⟨by rfl, fun w' hS => ?_⟩) trivial ?_
      · go_simp
      try simp only [Act.put, List.setIfInBounds_toArray, List.set_cons_zero, List.set_cons_succ]
      refine wpAnyH_all (rs := [21]) (by kernel_rfl) (by simp) ?_
      intro i21 hi21
      obtain rfl : i21 = 21 := by simpa using hi21
      refine skip_at (w' := w5.setCell ⟨r, 3, none⟩ (.slice va vn vc)) rfl rfl (by go_simp) ?_
      refine ⟨trivial, ?_⟩
      refine wpAnyH_done (by kernel_rfl) ?_ _
      have ht := HTR.out w5 _ hs5 hb5 hk5
      clear hs5 hb5 hk5 h5 c5 f5
      go_end0
      first | exact ht | exact ⟨rfl, ht⟩ | exact ⟨rfl, rfl, ht⟩ | (trace_state; sorry)
end Go.Proofs.Ytpiijfknpliahaa
