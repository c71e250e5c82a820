/- Contracts of (*Dir).Purge, All, Len: they come to the document's. Conditions: the receiver is a directory in memory; the numbers are of their kinds. -/
import Derived.Test.YthekkddmbomimaaDirF
namespace Go.Proofs.Ythekkddmbomimaa
open Go.RowKit
set_option maxRecDepth 100000

theorem Keeps.transNew {S T : Nat → Prop} {a b c : World} (h : Keeps S a b) (k : Keeps T b c) (hT : ∀ k, k < a.heap.size → T k → S k) : Keeps S a c :=
  ⟨k.os.trans h.os, k.tape.trans h.tape, k.output.trans h.output, Nat.le_trans h.size k.size,
   fun i hi hs => (k.block i (Nat.lt_of_lt_of_le hi h.size) (fun x => hs (hT i hi x))).trans (h.block i hi hs)⟩

/-- The buckets when i of them are swept. -/
def swept (f : En → Bool) (L : List (List En)) (i : Nat) : List (List En) := ((L.take i).map fun l => l.filter fun e => !f e) ++ L.drop i
theorem swept_zero (f : En → Bool) (L : List (List En)) : swept f L 0 = L := by simp [swept]
theorem swept_all (f : En → Bool) (L : List (List En)) : swept f L L.length = L.map fun l => l.filter fun e => !f e := by simp [swept]
theorem swept_length (f : En → Bool) (L : List (List En)) (i : Nat) : (swept f L i).length = L.length := by simp [swept]; omega
theorem swept_at (f : En → Bool) (L : List (List En)) (i : Nat) (hi : i < L.length) : (swept f L i)[i]? = L[i]? := by
  unfold swept
  rw [List.getElem?_append_right (by simp; omega)]
  simp [Nat.min_eq_left (Nat.le_of_lt hi)]
theorem swept_succ (f : En → Bool) (L : List (List En)) (i : Nat) (l : List En) (hl : L[i]? = some l) : (swept f L i).set i (l.filter fun e => !f e) = swept f L (i + 1) := by
  have hi := (List.getElem?_eq_some_iff.1 hl).1
  unfold swept
  rw [List.set_append_right _ _ (by simp; omega)]
  simp only [List.length_map, List.length_take, Nat.min_eq_left (Nat.le_of_lt hi), Nat.sub_self]
  rw [List.drop_eq_getElem_cons hi, List.set_cons_zero, List.take_add_one, hl]
  simp
def sweptN (f : En → Bool) (L : List (List En)) (i : Nat) : Nat := ((L.take i).map fun l => (l.filter f).length).sum
theorem sweptN_succ (f : En → Bool) (L : List (List En)) (i : Nat) (l : List En) (hl : L[i]? = some l) : sweptN f L (i + 1) = sweptN f L i + (l.filter f).length := by
  unfold sweptN
  rw [List.take_add_one, hl]; simp
theorem sweptN_all (f : En → Bool) (L : List (List En)) : sweptN f L L.length = (L.map fun l => (l.filter f).length).sum := by unfold sweptN; rw [List.take_length]
theorem filter_both (f : En → Bool) (l : List En) : (l.filter f).length + (l.filter fun e => !f e).length = l.length := by
  induction l with
  | nil => rfl
  | cons x l ih => cases h : f x <;> simp [h] <;> omega
theorem sweptN_le (f : En → Bool) (L : List (List En)) (s i : Nat) (h : ∀ l ∈ L, l.length ≤ s) : sweptN f L i ≤ L.length * s := by
  unfold sweptN
  have : ∀ (M : List (List En)), (∀ l ∈ M, l.length ≤ s) → (M.map fun l => (l.filter f).length).sum ≤ M.length * s := by
    intro M
    induction M with
    | nil => intro _; simp
    | cons l M ih =>
      intro hM
      have h1 := ih (fun x hx => hM x (by simp [hx]))
      have h2 := hM l (by simp)
      have h3 := List.length_filter_le f l
      simp only [List.map_cons, List.sum_cons, List.length_cons, Nat.succ_mul]; omega
  refine Nat.le_trans (this _ (fun l hl => h l (List.mem_of_mem_take hl))) (Nat.mul_le_mul_right s ?_)
  rw [List.length_take]; omega

set_option maxHeartbeats 1000000 in
theorem Purge_dir {w : World} {p pl pn s : Nat} {L : List (List En)} (h : DirAt w p pl pn s L) (from_ to turn : Nat) (hf : from_ < 4294967296) (ht : to < 4294967296) (hu : turn < 18446744073709551616) :
    Calls Try.prog 26 #[.pointer (some ⟨p, 0, none⟩), .int .u32 from_, .int .u32 to, .int .u64 turn] w fun e w' =>
      e = .returned (.int .i64 (mPurge L from_ to turn).1) ∧ DirAt w' p pl pn s (mPurge L from_ to turn).2 ∧ Keeps (fun k => k = pl ∨ k = pn) w w' := by
  unfold mPurge
  rw [← sweptN_all, ← swept_all]
  obtain ⟨B, hBL⟩ : ∃ B, L.length = B := ⟨_, rfl⟩
  have hle : ∀ i, sweptN (gone from_ to turn) L i ≤ 65536 := fun i => Nat.le_trans (sweptN_le _ L s i (fun l hl => by
    obtain ⟨j, hj⟩ := List.getElem?_of_mem hl
    exact h.le j l hj)) (DirAt.mul _ _ h.s16 h.b4)
  obtain ⟨l1, l2, l3⟩ := h.lts
  have c2 := h.head.cell (j := 2) rfl
  have hb4 := h.b4
  have hs16 := h.s16
  rw [hBL] at c2 hb4 ⊢
  have HD := Lib.hid h
  have HB := Lib.hid hBL
  have HL := Lib.hid hle
  have HU := Lib.hid hu
  clear h hBL hle hu
  have c2' : ∀ A B' C : Obj, (((w.alloc A).alloc B').alloc C).cell? ⟨p, 2, none⟩ = some (.slice (some ⟨pn, 0, none⟩) B B) := fun A B' C => ((three_below w A B' C).cell (p := ⟨p, 2, none⟩) l1).trans c2
  go_enter Try.func26, Try.ntmps26
  go_wp2
  obtain ⟨x1, x2, x3⟩ := three_new w [.int .u32 from_] [.int .u32 to] [.int .u64 turn] 37 37 38
  have hW := three_below w (.cells #[.int .u32 from_] 37) (.cells #[.int .u32 to] 37) (.cells #[.int .u64 turn] 38)
  have hBx : Boxes (((w.alloc (.cells #[.int .u32 from_] 37)).alloc (.cells #[.int .u32 to] 37)).alloc (.cells #[.int .u64 turn] 38)) w.heap.size (w.heap.size + 1) (w.heap.size + 1 + 1) from_ to turn :=
    ⟨x1.cell rfl, x2.cell rfl, x3.cell rfl, x1.lt, x2.lt, x3.lt⟩
  have HX := Lib.hid hBx
  have HW := Lib.hid hW
  clear x1 x2 x3 hBx hW c2'
  generalize hw3 : ((w.alloc (.cells #[.int .u32 from_] 37)).alloc (.cells #[.int .u32 to] 37)).alloc (.cells #[.int .u64 turn] 38) = w3 at *
  clear hw3
  go_loopw [9, 18] (fun s9 s18 wr => ∃ i : Nat, s18 = .int .i64 i ∧ i ≤ B ∧ s9 = .int .i64 (sweptN (gone from_ to turn) L i : Nat) ∧ Hid (DirAt wr p pl pn s (swept (gone from_ to turn) L i)) ∧ Hid (Keeps (fun k => k = pl ∨ k = pn) w3 wr)) (fun _ s18 _ => B - (intOf s18).toNat)
  case atStart => exact ⟨0, rfl, Nat.zero_le _, rfl, by rw [swept_zero]; exact HD.out.below HW.out, Keeps.refl _ _⟩
  case round =>
    obtain ⟨i, rfl, hi, rfl, hDi, hKi⟩ := hrel
    by_cases hlt : i < B
    · obtain ⟨l, hl⟩ : ∃ l, L[i]? = some l := ⟨L[i]'(by rw [HB.out]; exact hlt), by simp⟩
      have hl2 : (swept (gone from_ to turn) L i)[i]? = some l := by rw [swept_at _ _ _ (by rw [HB.out]; exact hlt)]; exact hl
      have hls := hDi.out.le i l hl2
      have hbuck := Lib.hid (bucket_dir2 hDi.out i l hl2)
      have hset := swept_succ (gone from_ to turn) L i l hl
      have hN := sweptN_succ (gone from_ to turn) L i l hl
      have hlN := HL.out (i + 1)
      have hfb := filter_both (gone from_ to turn) l
      have hokl := HD.out.ok l (List.mem_of_getElem? hl)
      have HS := Lib.hid hset
      have HO := Lib.hid hokl
      have H2 := Lib.hid hl2
      have a1 : (i : Int) < B := by omega
      clear hl hl2 hset hokl
      go_wp2_with fail
      refine hbuck.out.mono ?_
      rintro e w4 ⟨rfl, hD4, hK4, hS4⟩
      have hclone := Lib.hid (Clone_any w4 _ s l hS4 (by omega))
      have HD4 := Lib.hid hD4
      have HK4 := Lib.hid hK4
      clear hD4 hK4 hS4
      go_wp2_with fail
      refine hclone.out.mono ?_
      rintro e w5 ⟨v5, rfl, hO5, hK5, hF5⟩
      have hk35 : Keeps (fun k => k = pl ∨ k = pn) w3 w5 := (hKi.out.trans (HK4.out.mono (fun _ h => h.elim))).trans (hK5.mono (fun _ h => h.elim))
      have hbx5 : Boxes w5 w.heap.size (w.heap.size + 1) (w.heap.size + 1 + 1) from_ to turn := HX.out.keeps hk35 (by omega) (by omega) (by omega)
      have hsz := Nat.le_trans hKi.out.size HK4.out.size
      have hl3 := HX.out.l3
      have hdel := Lib.hid (DeleteFunc_any w5 w.heap.size (w.heap.size + 1) (w.heap.size + 1 + 1) from_ to turn hbx5 hf ht v5 l hO5 HO.out (by omega) (fun g hg => by have := hF5 g hg; omega))
      have HK5 := Lib.hid hK5
      have HF5 := Lib.hid hF5
      have HK35 := Lib.hid hk35
      clear hO5 hK5 hF5 hbx5 hk35
      go_wp2_with fail
      refine hdel.out.mono ?_
      rintro e w6 ⟨v6, rfl, hS6, hK6⟩
      obtain ⟨a6, c6, rfl⟩ := hS6.form
      have hD6 : DirAt w6 p pl pn s (swept (gone from_ to turn) L i) := by
        have hd4 := HD4.out
        obtain ⟨q1, q2, q3⟩ := hd4.lts
        have hd5 := hd4.keeps HK5.out id id id
        have ne : ∀ k, k < w4.heap.size → ¬ blkOf v5 = some k := fun k hk e => by have := HF5.out k e; omega
        exact hd5.keeps hK6 (ne p q1) (ne pl q2) (ne pn q3)
      have hk36 : Keeps (fun k => k = pl ∨ k = pn) w3 w6 := HK35.out.transNew hK6 (fun k hk e => by have := HF5.out k e; omega)
      have hlay := Lib.hid (lay_dir hD6 i (by rw [swept_length, HB.out]; exact hlt) (.slice a6 (l.filter fun e => !gone from_ to turn e).length c6) (l.filter fun e => !gone from_ to turn e) hS6
        (by omega) (fun e he => HO.out e (List.mem_filter.1 he).1))
      have HK36 := Lib.hid hk36
      clear hD6 hS6 hK6 hk36
      generalize hkept : (l.filter fun e => !gone from_ to turn e) = kept at *
      generalize hcnt : sweptN (gone from_ to turn) L (i + 1) = cnt1 at *
      generalize sweptN (gone from_ to turn) L i = cnt0 at *
      have a2 : (cnt0 : Int) + ((l.length : Int) - kept.length) ≤ 65536 := by omega
      have a3 : kept.length ≤ l.length := by omega
      have HN := Lib.hid hN
      have HFB := Lib.hid hfb
      have HKE := Lib.hid hkept
      have HCN := Lib.hid hcnt
      clear hN hfb hkept hcnt
      go_wp2_with fail
      refine hlay.out.mono ?_
      rintro e w7 ⟨rfl, hD7, hK7⟩
      have HD7 := Lib.hid hD7
      have HK7 := Lib.hid hK7
      clear hD7 hK7
      go_wp2
      go_roundw
      case rel =>
        refine ⟨i + 1, by go_num, by omega, ?_, ?_, HK36.out.trans HK7.out⟩
        · rw [HCN.out]; have := HN.out; have := HFB.out
          have e1 : (cnt1 : Int) = (cnt0 : Int) + ((l.length : Int) - kept.length) := by omega
          rw [e1]
        · have := HD7.out; rw [HS.out] at this; exact this
      case measure => simp [intOf]; omega
    · have hiB : i = B := by omega
      subst hiB
      have a1 : ¬ (i : Int) < i := by omega
      go_wp2
      go_ret
      exact ⟨rfl, hDi.out, (Keeps.ofBelow HW.out).trans hKi.out⟩
end Go.Proofs.Ythekkddmbomimaa
