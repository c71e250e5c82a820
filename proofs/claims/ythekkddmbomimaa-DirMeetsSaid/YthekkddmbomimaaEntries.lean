/- The contract of the help that holds two lists of entries against one another: of lists that read alike it says true. Conditions: both read as the same entries, 65536 at most. -/
import Derived.Test.YthekkddmbomimaaRefDel
namespace Go.Proofs.Ythekkddmbomimaa
open Go.RowKit
set_option maxRecDepth 100000
attribute [local go_sem] Oper.semAt_some

set_option maxHeartbeats 4000000 in
theorem Entries_same (w : World) (v1 v2 : Value) (A : List En) (h1 : SlR w v1 4 A.length (cellsE A)) (h2 : SlR w v2 4 A.length (cellsE A)) (hn : A.length ≤ 65536) :
    Calls Try.prog 23 #[v1, v2] w fun e w' => e = .returned (.bool true) ∧ Keeps (fun _ => False) w w' := by
  obtain ⟨_, x1, k1, rfl, hc1⟩ := h1
  obtain ⟨_, x2, k2, rfl, hc2⟩ := h2
  have H1 := Lib.hid hc1
  have H2 := Lib.hid hc2
  clear hc1 hc2
  have e0 : ((A.length : Int) == (A.length : Int)) = true := beq_self_eq_true _
  go_enter Try.func23, Try.ntmps23
  go_wp2
  go_loopw [5] (fun s5 wr => ∃ (r : Nat), s5 = .int .i64 (r : Int) ∧ r ≤ A.length ∧ Hid (Keeps (fun _ => False) w wr)) (fun s5 _ => A.length - (intOf s5).toNat)
  case atStart => exact ⟨0, by first | rfl | simp, Nat.zero_le _, Lib.hid (Keeps.refl _ _)⟩
  case round =>
    obtain ⟨r, rfl, hr, hK⟩ := hrel
    by_cases hlt : r < A.length
    · rcases H1.out with h0 | ⟨p1, o1, rfl, hp1, hc1⟩
      · omega
      rcases H2.out with h0 | ⟨p2, o2, rfl, hp2, hc2⟩
      · omega
      obtain ⟨e, he⟩ : ∃ e, A[r]? = some e := ⟨A[r], by simp⟩
      obtain ⟨r0, r1, r2, r3⟩ := cellsE_at he
      have c10 := (hK.out.cell (p := ⟨p1, o1 + r * 4, none⟩) hp1 id).trans (hc1 _ _ r0)
      have c11 := (hK.out.cell (p := ⟨p1, o1 + r * 4 + 1, none⟩) hp1 id).trans (hc1 _ _ r1)
      have c12 := (hK.out.cell (p := ⟨p1, o1 + r * 4 + 2, none⟩) hp1 id).trans (hc1 _ _ r2)
      have c13 := (hK.out.cell (p := ⟨p1, o1 + r * 4 + 3, none⟩) hp1 id).trans (hc1 _ _ r3)
      have c20 := (hK.out.cell (p := ⟨p2, o2 + r * 4, none⟩) hp2 id).trans (hc2 _ _ r0)
      have c21 := (hK.out.cell (p := ⟨p2, o2 + r * 4 + 1, none⟩) hp2 id).trans (hc2 _ _ r1)
      have c22 := (hK.out.cell (p := ⟨p2, o2 + r * 4 + 2, none⟩) hp2 id).trans (hc2 _ _ r2)
      have c23 := (hK.out.cell (p := ⟨p2, o2 + r * 4 + 3, none⟩) hp2 id).trans (hc2 _ _ r3)
      have b1 : (0 : Int) ≤ r := by omega
      have b2 : (r : Int) < A.length := by omega
      have e1 : IntKind.i64.wrap ((r : Int) + 1) = (r : Int) + 1 := by rw [IntKind.wrap_i64]; omega
      clear r0 r1 r2 r3 hc1 hc2 he
      go_wp2
      go_quiet (fail)
      go_wp2
      go_roundw
      case rel => exact ⟨r + 1, by first | rfl | (rw [e1]; rfl) | simp [e1], by omega, Lib.hid (hK.out.trans (Keeps.drewN _ _ _))⟩
      case measure => simp [intOf]; omega
    · obtain rfl : r = A.length := by omega
      have b2 : ¬ (A.length : Int) < A.length := by omega
      go_wp2
      go_ret
      exact ⟨rfl, hK.out⟩
end Go.Proofs.Ythekkddmbomimaa
