/- Contracts of (*Dir).All, Len: all entries, bucket by bucket. Condition: the receiver is a directory in memory. -/
import Derived.Test.YthekkddmbomimaaDirG
namespace Go.Proofs.Ythekkddmbomimaa
open Go.RowKit
set_option maxRecDepth 100000

theorem flatten_take_succ {α : Type} (L : List (List α)) (i : Nat) (l : List α) (hl : L[i]? = some l) : (L.take (i + 1)).flatten = (L.take i).flatten ++ l := by
  rw [List.take_add_one, hl]; simp
theorem flatten_take_le (L : List (List En)) (s i : Nat) (h : ∀ l ∈ L, l.length ≤ s) : (L.take i).flatten.length ≤ L.length * s := by
  have : ∀ (M : List (List En)), (∀ l ∈ M, l.length ≤ s) → M.flatten.length ≤ M.length * s := by
    intro M
    induction M with
    | nil => intro _; simp
    | cons l M ih =>
      intro hM
      have h1 := ih (fun x hx => hM x (by simp [hx]))
      have h2 := hM l (by simp)
      simp only [List.flatten_cons, List.length_append, List.length_cons, Nat.succ_mul]; omega
  refine Nat.le_trans (this _ (fun l hl => h l (List.mem_of_mem_take hl))) (Nat.mul_le_mul_right s ?_)
  rw [List.length_take]; omega

set_option maxHeartbeats 1000000 in
theorem All_dir {w : World} {p pl pn s : Nat} {L : List (List En)} (h : DirAt w p pl pn s L) (X : List En) (hX : L.flatten = X) :
    Calls Try.prog 34 #[.pointer (some ⟨p, 0, none⟩)] w fun e w' => ∃ v, e = .returned v ∧ SlR w' v 4 X.length (cellsE X) ∧ Keeps (fun _ => False) w w' := by
  have HX := Lib.hid hX
  clear hX
  obtain ⟨B, hBL⟩ : ∃ B, L.length = B := ⟨_, rfl⟩
  have hle : ∀ i, (L.take i).flatten.length ≤ 65536 := fun i => Nat.le_trans (flatten_take_le L s i (fun l hl => by
    obtain ⟨j, hj⟩ := List.getElem?_of_mem hl
    exact h.le j l hj)) (DirAt.mul _ _ h.s16 h.b4)
  have c2 := h.head.cell (j := 2) rfl
  have hb4 := h.b4
  rw [hBL] at c2 hb4
  obtain ⟨i0, hi0, hz0, hs0, hb0⟩ := info_parts info55
  have HD := Lib.hid h
  have HB := Lib.hid hBL
  have HL := Lib.hid hle
  clear h hBL hle
  go_enter Try.func34, Try.ntmps34
  go_wp2
  go_loopw [3, 10] (fun v s10 wr => ∃ i : Nat, s10 = .int .i64 i ∧ i ≤ B ∧ Hid (SlOwn wr v 55 4 (L.take i).flatten.length (cellsE (L.take i).flatten)) ∧ Hid (∀ g, blkOf v = some g → w.heap.size ≤ g) ∧ Hid (Keeps (fun _ => False) w wr)) (fun _ s10 _ => B - (intOf s10).toNat)
  case atStart => exact ⟨0, rfl, Nat.zero_le _, SlOwn.nil _ _ _, fun g hg => by simp [blkOf] at hg, Keeps.refl _ _⟩
  case round =>
    obtain ⟨i, rfl, hi, hO, hG, hK⟩ := hrel
    by_cases hlt : i < B
    · obtain ⟨l, hl⟩ : ∃ l, L[i]? = some l := ⟨L[i]'(by rw [HB.out]; exact hlt), by simp⟩
      have hDr := HD.out.keeps hK.out id id id
      have hbuck := Lib.hid (bucket_dir2 hDr i l hl)
      have hle := HL.out (i + 1)
      have hfl := flatten_take_succ L i l hl
      have a1 : (i : Int) < B := by omega
      rw [hfl, List.length_append] at hle
      have HFL := Lib.hid hfl
      clear hDr hl hfl
      go_wp2_with fail
      refine hbuck.out.mono ?_
      rintro e w4 ⟨rfl, hD4, hK4, hS4⟩
      obtain ⟨v', w5, hrun, hown, hk5, hb5⟩ := run_appendOwn (P := Try.prog) 45 45 45 55 i0 _ 4 24 Try.underlying45 Try.underlying45 hi0 hz0 hs0 hb0 rfl (hO.out.keeps hK4 (fun _ _ h => h)) hS4 (cellsE_one_cell l) (by unfold maxLen; omega) (by omega)
      have hk45 : Keeps (fun _ => False) w w5 := (hK.out.trans hK4).transNew hk5 (fun k hk e => by have := hG.out k e; omega)
      have hg5 : ∀ g, blkOf v' = some g → w.heap.size ≤ g := by
        intro g hg
        rcases hb5 with hb | ⟨hb, _⟩
        · rw [hb] at hg; exact hG.out g hg
        · rw [hb] at hg; obtain rfl : w4.heap.size = g := by simpa using hg
          exact Nat.le_trans hK.out.size hK4.size
      have HR := Lib.hid hrun
      have HO5 := Lib.hid hown
      have HG5 := Lib.hid hg5
      have HK5 := Lib.hid hk45
      clear hrun hown hg5 hk45 hk5 hb5 hD4 hK4 hS4
      go_wp2_with (first | (refine wpList_runAppend rfl (.tmp 13) (.tmp 16) 45 45 rfl v' w5 (by exact HR.out) ?_))
      go_roundw
      case rel => exact ⟨i + 1, by go_num, by omega, by rw [HFL.out, cellsE_append, List.length_append]; exact HO5.out, HG5, HK5⟩
      case measure => simp [intOf]; omega
    · have hiB : L.take i = L := List.take_of_length_le (by rw [HB.out]; omega)
      have HI := Lib.hid hiB
      have a1 : ¬ (i : Int) < B := by omega
      clear hiB
      go_wp2
      go_ret
      refine ⟨_, rfl, ?_, hK.out⟩
      have := hO.out.slr
      rwa [HI.out, HX.out] at this

theorem Len_dir {w : World} {p pl pn s : Nat} {L : List (List En)} (h : DirAt w p pl pn s L) (n : Nat) (hn : L.flatten.length = n) :
    Calls Try.prog 20 #[.pointer (some ⟨p, 0, none⟩)] w fun e w' => e = .returned (.int .i64 n) ∧ Keeps (fun _ => False) w w' := by
  have hall0 := All_dir h _ rfl
  rw [hn] at hall0
  generalize cellsE L.flatten = cs at *
  have hall := Lib.hid hall0
  clear h hall0 hn
  go_enter Try.func20, Try.ntmps20
  go_wp2_with fail
  refine hall.out.mono ?_
  rintro e w' ⟨v, rfl, hS, hK⟩
  obtain ⟨a, c, rfl⟩ := hS.form
  have HK := Lib.hid hK
  clear hS hK
  go_wp2
  go_ret
  exact ⟨rfl, HK.out⟩
end Go.Proofs.Ythekkddmbomimaa
