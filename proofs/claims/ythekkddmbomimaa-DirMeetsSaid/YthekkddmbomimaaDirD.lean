/- The contract of dir.New: a directory of empty buckets. No condition on the numbers but that they are ints. -/
import Derived.Test.YthekkddmbomimaaDirC
namespace Go.Proofs.Ythekkddmbomimaa
open Go.RowKit
set_option maxRecDepth 100000

def clampN (x lo hi : Int) : Nat := (min (max x lo) hi).toNat
theorem clampN_le (x lo hi : Int) : clampN x lo hi ≤ hi.toNat := by unfold clampN; omega
theorem clampN_ge (x lo hi : Int) (h : lo ≤ hi) : lo.toNat ≤ clampN x lo hi := by unfold clampN; omega

theorem info3 : (Try.prog.info? 3).map (fun i => (i.zero, i.size, i.bytes)) = some (some (.int .i64 0), 1, 8) := by kernel_rfl

def enZero : En := ⟨0, 0, 0, 0⟩
theorem made55 (n : Nat) : madeCells (Value.agg #[.int .u16 0, .int .u32 0, .int .u16 0, .int .u64 0]).cells (n * 4) = (cellsE (List.replicate n enZero)).toArray := by
  apply Array.ext'
  simp only [madeCells, Value.cells, Array.toList_map, Array.toList_range]
  induction n with
  | zero => simp [cellsE]
  | succ n ih =>
    rw [show (n + 1) * 4 = n * 4 + 1 + 1 + 1 + 1 by omega, List.range_succ, List.range_succ, List.range_succ, List.range_succ, List.replicate_succ', cellsE_append]
    simp only [List.map_append, ih]
    simp [cellsE, En.enc, enZero]
theorem made3 (n : Nat) : madeCells (Value.int .i64 0).cells (n * 1) = (List.replicate n (Value.int .i64 0)).toArray := by
  apply Array.ext'
  rw [Nat.mul_one]; exact toList_madeCells_one _ _

theorem three_new (w : World) (A B C : List Value) (a b c : TypeId) : Blk (((w.alloc (.cells A.toArray a)).alloc (.cells B.toArray b)).alloc (.cells C.toArray c)) w.heap.size A a ∧
    Blk (((w.alloc (.cells A.toArray a)).alloc (.cells B.toArray b)).alloc (.cells C.toArray c)) (w.heap.size + 1) B b ∧ Blk (((w.alloc (.cells A.toArray a)).alloc (.cells B.toArray b)).alloc (.cells C.toArray c)) (w.heap.size + 2) C c := by
  refine ⟨((Blk.new w A a).alloc _).alloc _, ?_, ?_⟩
  · have := (Blk.new (w.alloc (.cells A.toArray a)) B b).alloc (.cells C.toArray c)
    rwa [World.size_alloc] at this
  · have := Blk.new ((w.alloc (.cells A.toArray a)).alloc (.cells B.toArray b)) C c
    rwa [World.size_alloc, World.size_alloc] at this
theorem three_below (w : World) (A B C : Obj) : Below w.heap.size w (((w.alloc A).alloc B).alloc C) :=
  (((Below.refl _ w).alloc (Nat.le_refl _) A).alloc (by simp) B).alloc (by simp; omega) C
theorem dir_of_new {W : World} {p pl pn B S : Nat} (hS1 : 1 ≤ S) (hS2 : S ≤ 16) (hB1 : 1 ≤ B) (hB2 : B ≤ 4096) (lp : pl ≠ p) (ln : pl ≠ pn) (np : pn ≠ p)
    (h1 : Blk W p [.int .i64 S, .slice (some ⟨pl, 0, none⟩) (B * S) (B * S), .slice (some ⟨pn, 0, none⟩) B B] 69) (h2 : Blk W pl (cellsE (List.replicate (B * S) enZero)) 55) (h3 : Blk W pn (List.replicate B (.int .i64 0)) 3) :
    DirAt W p pl pn S (List.replicate B []) :=
  ⟨hS1, hS2, by simpa using hB1, by simpa using hB2, lp, ln, np, by simpa using h1, by simpa using h3,
    ⟨_, h2, by simp, fun i l hl => by
      obtain rfl : l = [] := by
        have := List.mem_of_getElem? hl
        exact (List.mem_replicate.1 this).2
      simp⟩, fun l hl e he => by
      obtain rfl : l = [] := (List.mem_replicate.1 hl).2
      simp at he⟩

set_option maxHeartbeats 400000 in
theorem New_any (w : World) (b s : Int) :
    Calls Try.prog 13 #[.int .i64 b, .int .i64 s] w fun e w' => ∃ p pl pn, e = .returned (.pointer (some ⟨p, 0, none⟩)) ∧ DirAt w' p pl pn (clampN s 1 16) (List.replicate (clampN b 1 4096) []) ∧
      w.heap.size ≤ p ∧ w.heap.size ≤ pl ∧ w.heap.size ≤ pn ∧ Below w.heap.size w w' := by
  have eB : min (max b 1) 4096 = ((clampN b 1 4096 : Nat) : Int) := by unfold clampN; omega
  have eS : min (max s 1) 16 = ((clampN s 1 16 : Nat) : Int) := by unfold clampN; omega
  have hB1 := clampN_ge b 1 4096 (by omega)
  have hB2 := clampN_le b 1 4096
  have hS1 := clampN_ge s 1 16 (by omega)
  have hS2 := clampN_le s 1 16
  generalize clampN b 1 4096 = B at *
  generalize clampN s 1 16 = S at *
  obtain ⟨m, hm⟩ : ∃ m, m = B * S := ⟨_, rfl⟩
  have hm1 : (B : Int) * (S : Int) = (m : Int) := by rw [hm]; simp
  have hm2 : m ≤ 65536 := by rw [hm]; exact DirAt.mul _ _ (by omega) (by omega)
  obtain ⟨i0, hi0, hz0, hs0, hb0⟩ := info_parts info55
  obtain ⟨i1, hi1, hz1, hs1, hb1⟩ := info_parts info3
  have mk1 : ∀ W : World, (Instr.makeSlice 45 (.int .i64 m) (.int .i64 m)).run Try.prog W = .ok (.slice (some ⟨W.heap.size, 0, none⟩) m m) (W.alloc (.cells (cellsE (List.replicate m enZero)).toArray 55)) := fun W => by
    have := run_make (P := Try.prog) (w := W) 45 55 i0 _ Try.underlying45 hi0 hz0 .i64 .i64 m m (by omega) (by omega) (by rw [hb0]; omega) (by omega)
    rw [hs0, Int.toNat_natCast, made55] at this; exact this
  have mk2 : ∀ W : World, (Instr.makeSlice 67 (.int .i64 B) (.int .i64 B)).run Try.prog W = .ok (.slice (some ⟨W.heap.size, 0, none⟩) B B) (W.alloc (.cells (List.replicate B (Value.int .i64 0)).toArray 3)) := fun W => by
    have := run_make (P := Try.prog) (w := W) 67 3 i1 _ Try.underlying67 hi1 hz1 .i64 .i64 B B (by omega) (by omega) (by rw [hb1]; omega) (by omega)
    rw [hs1, Int.toNat_natCast, made3] at this; exact this
  obtain ⟨M1, hM1⟩ : ∃ M1, (cellsE (List.replicate m enZero)).toArray = M1 := ⟨_, rfl⟩
  obtain ⟨M2, hM2⟩ : ∃ M2, (List.replicate B (Value.int .i64 0)).toArray = M2 := ⟨_, rfl⟩
  rw [hM1] at mk1
  rw [hM2] at mk2
  have HM := Lib.hid hm
  have HB := Lib.hid eB
  have HS := Lib.hid eS
  have H1 := Lib.hid hM1
  have H2 := Lib.hid hM2
  have e1 : IntKind.i64.wrap (m : Int) = (m : Int) := by rw [IntKind.wrap_i64]; omega
  clear hm eB eS hM1 hM2
  go_enter Try.func13, Try.ntmps13
  go_wp2_with (first
    | (refine wpList_runMax rfl (.tmp 5) _ 3 3 rfl _ _ (run_max_int _ _ _ _ b 1 _) ?_)
    | (refine wpList_runMin rfl (.tmp 6) _ 3 3 rfl (.int .i64 B) _ (by rw [← HB.out]; exact run_min_int _ _ _ _ (max b 1) 4096 _) ?_)
    | (refine wpList_runMax rfl (.tmp 8) _ 3 3 rfl _ _ (run_max_int _ _ _ _ s 1 _) ?_)
    | (refine wpList_runMin rfl (.tmp 9) _ 3 3 rfl (.int .i64 S) _ (by rw [← HS.out]; exact run_min_int _ _ _ _ (max s 1) 16 _) ?_))
  go_region
  all_goals go_wp2
  all_goals go_ret
  · obtain ⟨x1, x2, x3⟩ := three_new w (cellsE (List.replicate m enZero)) (List.replicate B (Value.int .i64 0)) [.int .i64 S, .slice (some ⟨w.heap.size, 0, none⟩) m m, .slice (some ⟨w.heap.size + 1, 0, none⟩) B B] 55 3 69
    rw [H1.out, H2.out] at x1 x2 x3
    exact ⟨w.heap.size + 2, w.heap.size, w.heap.size + 1, by simp, dir_of_new hS1 hS2 hB1 hB2 (by omega) (by omega) (by omega) (by rw [← HM.out]; exact x3) (by rw [← HM.out]; exact x1) x2, by omega, by omega, by omega, (three_below _ _ _ _).drew⟩
  · obtain ⟨x1, x2, x3⟩ := three_new w (List.replicate B (Value.int .i64 0)) (cellsE (List.replicate m enZero)) [.int .i64 S, .slice (some ⟨w.heap.size + 1, 0, none⟩) m m, .slice (some ⟨w.heap.size, 0, none⟩) B B] 3 55 69
    rw [H1.out, H2.out] at x1 x2 x3
    exact ⟨w.heap.size + 2, w.heap.size + 1, w.heap.size, by simp, dir_of_new hS1 hS2 hB1 hB2 (by omega) (by omega) (by omega) (by rw [← HM.out]; exact x3) (by rw [← HM.out]; exact x2) x1, by omega, by omega, by omega, (three_below _ _ _ _).drew⟩
end Go.Proofs.Ythekkddmbomimaa
