/- The walk of DirFull: it returns true. Conditions: the arguments fit their kinds. -/
import Derived.Test.YthekkddmbomimaaFullP
namespace Go.Proofs.Ythekkddmbomimaa
open Go.RowKit
set_option maxRecDepth 100000
attribute [local go_sem] Oper.semAt_some

theorem Lc_zero (b t : Nat) : Lc b t 0 = List.replicate 7 [] := by
  unfold Lc Full
  refine List.ext_getElem (by simp) (fun i h1 h2 => ?_)
  rw [List.getElem_set, List.getElem_replicate]
  split
  · rfl
  · rfl

set_option maxHeartbeats 2000000 in
theorem DirFull_any (s8 n8 k : Nat) (hs : s8 < 256) (hn : n8 < 256) (hk : k < 65536) (w : World) : Calls Try.prog 4 #[.int .u8 s8, .int .u8 n8, .int .u16 k] w fun e w' => e = .returned (.bool true) ∧ Keeps (fun _ => False) w w' := by
  obtain ⟨b, hb⟩ : ∃ b, b = k % 7 := ⟨_, rfl⟩
  obtain ⟨t, ht⟩ : ∃ t, t = k / 16 % 4 := ⟨_, rfl⟩
  have hk1 : IsKey (keyK k) b t := by rw [hb, ht]; exact key_is k hk
  have hb7 : b < 7 := by omega
  have hbm : b % 7 = b := Nat.mod_eq_of_lt hb7
  obtain ⟨k2, hk2⟩ : ∃ k2, k2 = (k + 1) % 65536 := ⟨_, rfl⟩
  obtain ⟨b2, hb2⟩ : ∃ b2, b2 = k2 % 7 := ⟨_, rfl⟩
  obtain ⟨t2, ht2⟩ : ∃ t2, t2 = k2 / 16 % 4 := ⟨_, rfl⟩
  have hkey2 : IsKey (keyK k2) b2 t2 := by rw [hb2, ht2]; exact key_is k2 (by omega)
  have hb27 : b2 < 7 := by omega
  have hb2m : b2 % 7 = b2 := Nat.mod_eq_of_lt hb27
  have hne : b ≠ b2 := by omega
  have hwk : IntKind.u16.wrap ((k : Int) + 1) = (k2 : Int) := by rw [IntKind.wrap_u16]; omega
  clear hb ht hb2 ht2 hk2
  obtain ⟨N, hN⟩ : ∃ N, N = n8 % 24 := ⟨_, rfl⟩
  have hNI : (n8 : Int) % 24 = (N : Int) := by omega
  have hN24 : N < 24 := by omega
  obtain ⟨m, hm⟩ : ∃ m, m = clampN ((s8 : Int) % 20) 1 16 := ⟨_, rfl⟩
  have hmI : min (max ((s8 : Int) % 20) 1) 16 = (m : Int) := by rw [hm]; unfold clampN; omega
  have hkn := Lib.hid (known_any w)
  have hnw : ∀ W, Calls Try.prog 13 #[.int .i64 7, .int .i64 ((s8 : Int) % 20)] W fun e w' => ∃ p pl pn, e = .returned (.pointer (some ⟨p, 0, none⟩)) ∧ DirAt w' p pl pn m (Lc b t (min 0 m)) ∧ W.heap.size ≤ p ∧ W.heap.size ≤ pl ∧ W.heap.size ≤ pn ∧ Below W.heap.size W w' := fun W => by
    have := New_any W 7 ((s8 : Int) % 20)
    rw [← hm] at this
    rw [Nat.zero_min, Lc_zero]
    exact this
  have HNW := Lib.hid hnw
  have HM := Lib.hid hmI
  clear hnw hmI hm hN
  go_enter Try.func4, Try.ntmps4
  go_wp2_with fail
  refine hkn.out.mono ?_
  rintro e w1 ⟨rfl, hK1⟩
  have K1 := Lib.hid hK1
  clear hK1
  go_wp2_with fail
  refine (HNW.out w1).mono ?_
  rintro e w2 ⟨p, pl, pn, rfl, hD2, hp, hpl, hpn, hb2'⟩
  have hs1 := K1.out.size
  have K2 := Lib.hid (K1.out.trans (Keeps.ofBelow hb2'))
  have D2 := Lib.hid hD2
  have hpl' : w.heap.size ≤ pl := by omega
  have hpn' : w.heap.size ≤ pn := by omega
  clear hb2' hD2
  go_wp2_with (first
    | (refine wpList_runMax rfl (.tmp 20) _ 3 3 rfl _ _ (run_max_int _ _ _ _ ((s8 : Int) % 20) 1 _) ?_)
    | (refine wpList_runMin rfl (.tmp 21) _ 3 3 rfl (.int .i64 m) _ (by rw [← HM.out]; exact run_min_int _ _ _ _ (max ((s8 : Int) % 20) 1) 16 _) ?_))
  go_loopw [9] (fun s9 wr => ∃ i : Nat, s9 = .int .i64 i ∧ i ≤ N ∧ Hid (DirAt wr p pl pn m (Lc b t (min i m))) ∧ Hid (Keeps (fun _ => False) w wr)) (fun s9 _ => N - (intOf s9).toNat)
  case atStart => exact ⟨0, rfl, by omega, D2, K2⟩
  case round =>
    obtain ⟨i, rfl, hiN, hD, hK⟩ := hrel
    by_cases hlt : i < N
    · have a1 : (i : Int) < N := by omega
      have e1 : IntKind.u32.wrap (i : Int) = (i : Int) := by rw [IntKind.wrap_u32]; omega
      have e2 : (i : Int) % 4294967296 = (i : Int) := by omega
      go_wp2_with fail
      refine (key_any wr k).mono ?_
      rintro e w4 ⟨rfl, hb4⟩
      have hcall := full_ins (hD.out.below hb4) hk1 hbm (show i < 24 by omega)
      have K4 := Lib.hid (hK.out.trans (Keeps.ofBelow (S := fun _ => False) hb4))
      clear hb4
      by_cases him : i < m
      · rw [if_pos him] at hcall
        have HC := Lib.hid hcall
        have a2 : (i : Int) < m := by omega
        clear hcall
        go_wp2_with fail
        refine HC.out.mono ?_
        rintro e w5 ⟨rfl, hD5, hK5⟩
        have D5 := Lib.hid hD5
        have K5 := Lib.hid (K4.out.transNew hK5 (fun k h1 h2 => by omega))
        clear hD5 hK5
        go_wp2
        go_roundw
        case rel => exact ⟨i + 1, by go_num, by omega, D5, K5⟩
        case measure => simp [intOf]; omega
      · rw [if_neg him] at hcall
        have HC := Lib.hid hcall
        have a2 : ¬ (i : Int) < m := by omega
        clear hcall
        go_wp2_with fail
        refine HC.out.mono ?_
        rintro e w5 ⟨rfl, hD5, hK5⟩
        have D5 := Lib.hid hD5
        have K5 := Lib.hid (K4.out.transNew hK5 (fun k h1 h2 => by omega))
        clear hD5 hK5
        go_wp2
        go_roundw
        case rel => exact ⟨i + 1, by go_num, by omega, D5, K5⟩
        case measure => simp [intOf]; omega
    · obtain rfl : i = N := by omega
      have a1 : ¬ (i : Int) < i := by omega
      go_wp2_with fail
      refine (key_any wr k2).mono ?_
      rintro e w4 ⟨rfl, hb4⟩
      have hother := full_other (hD.out.below hb4) hkey2 hb2m hne
      have K4 := Lib.hid (hK.out.trans (Keeps.ofBelow (S := fun _ => False) hb4))
      have HO := Lib.hid hother
      clear hb4 hother
      go_wp2_with fail
      refine HO.out.mono ?_
      rintro e w5 ⟨rfl, hD5, hK5⟩
      have K5 := Lib.hid (K4.out.transNew hK5 (fun k h1 h2 => by omega))
      clear hK5
      have hm1 := hD5.s1
      by_cases him : m ≤ i
      · have a2 : (m : Int) ≤ i := by omega
        rw [Nat.min_eq_right him] at hD5
        have D5 := Lib.hid hD5
        clear hD5
        have e5 : min (i : Int) (m : Int) = (m : Int) := by omega
        have e6 : IntKind.i64.wrap ((m : Int) + 1) = (m : Int) + 1 := by rw [IntKind.wrap_i64]; omega
        go_wp2_with fail
        refine (key_any w5 k).mono ?_
        rintro e w6 ⟨rfl, hb6⟩
        have K6 := Lib.hid (K5.out.trans (Keeps.ofBelow (S := fun _ => False) hb6))
        have HD := Lib.hid (full_del (D5.out.below hb6) hk1 hbm hne)
        clear hb6
        go_wp2_with fail
        refine HD.out.mono ?_
        rintro e w7 ⟨rfl, hD7, hK7⟩
        have K7 := Lib.hid (K6.out.transNew hK7 (fun k h1 h2 => by omega))
        have D7 := Lib.hid hD7
        clear hK7 hD7
        go_wp2_with fail
        refine (key_any w7 k).mono ?_
        rintro e w8 ⟨rfl, hb8⟩
        have K8 := Lib.hid (K7.out.trans (Keeps.ofBelow (S := fun _ => False) hb8))
        have HA := Lib.hid (full_again (D7.out.below hb8) hk1 hbm)
        clear hb8
        go_wp2_with fail
        refine HA.out.mono ?_
        rintro e w9 ⟨rfl, hD9, hK9⟩
        have K9 := Lib.hid (K8.out.transNew hK9 (fun k h1 h2 => by omega))
        have HL := Lib.hid (full_len2 hD9 hb7 hb27 hne)
        clear hK9 hD9
        go_wp2_with fail
        refine HL.out.mono ?_
        rintro e wa ⟨rfl, hKa⟩
        have Ka := Lib.hid (K9.out.trans hKa)
        clear hKa
        go_wp2
        all_goals
          go_ret
          refine ⟨?_, Ka.out⟩
          simp
          try omega
      · have a2 : ¬ (m : Int) ≤ i := by omega
        rw [Nat.min_eq_left (by omega)] at hD5
        have HL := Lib.hid (full_len1 hD5 hb7 hb27 hne)
        have e6 : IntKind.i64.wrap ((i : Int) + 1) = (i : Int) + 1 := by rw [IntKind.wrap_i64]; omega
        clear hD5
        go_wp2_with fail
        refine HL.out.mono ?_
        rintro e wa ⟨rfl, hKa⟩
        have Ka := Lib.hid (K5.out.trans hKa)
        clear hKa
        go_wp2
        all_goals
          go_ret
          refine ⟨?_, Ka.out⟩
          simp
          try omega
end Go.Proofs.Ythekkddmbomimaa
