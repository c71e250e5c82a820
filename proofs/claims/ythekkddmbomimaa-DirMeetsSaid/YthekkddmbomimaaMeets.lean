/- The walk of DirMeets: it returns true. Conditions: both slices read as bytes. -/
import Derived.Test.YthekkddmbomimaaBoth
namespace Go.Proofs.Ythekkddmbomimaa
open Go.RowKit
set_option maxRecDepth 100000
attribute [local go_sem] Oper.semAt_some

theorem k3_is : IsKey (keyK 3) 3 0 := key_is 3 (by omega)
theorem k4_is : IsKey (keyK 4) 4 0 := key_is 4 (by omega)
theorem mIns_two (s : Nat) (X : List En) (t at_ sec turn : Nat) : ∃ Y, (mIns s [[], X] 1 t at_ sec turn).2 = [[], Y] := by
  unfold mIns
  split
  · exact ⟨X, rfl⟩
  · split
    · exact ⟨X, rfl⟩
    · exact ⟨_, rfl⟩
theorem mDel_two (X : List En) (t at_ : Nat) : ∃ Y, (mDel [[], X] 1 t at_).2 = [[], Y] := by
  unfold mDel
  split
  · exact ⟨_, rfl⟩
  · exact ⟨X, rfl⟩

theorem m31 (X : List En) : 3 % ([[], X] : List (List En)).length = 1 := by simp
theorem m40 (X : List En) : 4 % ([[], X] : List (List En)).length = 0 := by simp
variable {base : Nat} {W : World} {p pl pn q ql : Nat} {X Z : List En}
theorem mt_insD (h : Both base W p pl pn q ql 16 [[], X] [[], X]) (a i : Nat) (h1 : a < 4294967296) (h3 : i < 18446744073709551616) :
    Calls Try.prog 17 #[.pointer (some ⟨p, 0, none⟩), .agg (keyK 3).toArray, .int .u32 a, .int .u16 1, .int .u64 i] W fun e w' =>
      ∃ (v : Int) (Y : List En), e = .returned (.int .i64 v) ∧ (mIns 16 [[], X] 1 0 a 1 i).2 = [[], Y] ∧ Both base w' p pl pn q ql 16 [[], Y] [[], X] ∧ Keeps (fun k => base ≤ k) W w' := by
  obtain ⟨Y, hY⟩ := mIns_two 16 X 0 a 1 i
  have h2 := both_insD h k3_is a 1 i h1 (by omega) h3
  rw [m31, hY] at h2
  exact h2.mono fun _ _ ⟨h1, h2, h3⟩ => ⟨_, Y, h1, hY, h2, h3⟩
theorem mt_insR {Y : List En} (h : Both base W p pl pn q ql 16 [[], Y] [[], X]) (a i : Nat) (h1 : a < 4294967296) (h3 : i < 18446744073709551616) (hY : (mIns 16 [[], X] 1 0 a 1 i).2 = [[], Y]) :
    Calls Try.prog 21 #[.pointer (some ⟨q, 0, none⟩), .agg (keyK 3).toArray, .int .u32 a, .int .u16 1, .int .u64 i] W fun e w' =>
      ∃ (v : Int), e = .returned (.int .i64 v) ∧ Both base w' p pl pn q ql 16 [[], Y] [[], Y] ∧ Keeps (fun k => base ≤ k) W w' := by
  have h2 := both_insR h k3_is a 1 i h1 (by omega) h3
  rw [m31, hY] at h2
  exact h2.mono fun _ _ ⟨h1, h2, h3⟩ => ⟨_, h1, h2, h3⟩
theorem mt_delD (h : Both base W p pl pn q ql 16 [[], X] [[], X]) (a : Nat) :
    Calls Try.prog 19 #[.pointer (some ⟨p, 0, none⟩), .agg (keyK 3).toArray, .int .u32 a] W fun e w' =>
      ∃ (v : Bool) (Y : List En), e = .returned (.bool v) ∧ mDel [[], X] 1 0 a = (v, [[], Y]) ∧ Both base w' p pl pn q ql 16 [[], Y] [[], X] ∧ Keeps (fun k => base ≤ k) W w' := by
  obtain ⟨Y, hY⟩ := mDel_two X 0 a
  have h2 := both_delD h k3_is a
  rw [m31, hY] at h2
  exact h2.mono fun _ _ ⟨h1, h2, h3⟩ => ⟨_, Y, h1, Prod.ext rfl hY, h2, h3⟩
theorem mt_delR {Y : List En} {v : Bool} (h : Both base W p pl pn q ql 16 [[], Y] [[], X]) (a : Nat) (hY : mDel [[], X] 1 0 a = (v, [[], Y])) :
    Calls Try.prog 22 #[.pointer (some ⟨q, 0, none⟩), .agg (keyK 3).toArray, .int .u32 a] W fun e w' =>
      e = .returned (.bool v) ∧ Both base w' p pl pn q ql 16 [[], Y] [[], Y] ∧ Keeps (fun k => base ≤ k) W w' := by
  have h2 := both_delR h k3_is a
  rw [m31, hY] at h2
  exact h2
theorem mt_probeD {L : List (List En)} (h : Both base W p pl pn q ql 16 [[], X] L) (Z : List En) (hZ : mProbe [[], X] 1 0 = Z) :
    Calls Try.prog 24 #[.pointer (some ⟨p, 0, none⟩), .agg (keyK 3).toArray] W fun e w' => ∃ v, e = .returned v ∧ SlR w' v 4 Z.length (cellsE Z) ∧ Keeps (fun _ => False) W w' :=
  both_probeD h k3_is Z (by rw [m31]; exact hZ)
theorem mt_probeR {L : List (List En)} (h : Both base W p pl pn q ql 16 L [[], X]) (Z : List En) (hZ : mProbe [[], X] 1 0 = Z) :
    Calls Try.prog 25 #[.pointer (some ⟨q, 0, none⟩), .agg (keyK 3).toArray] W fun e w' => ∃ v, e = .returned v ∧ SlR w' v 4 Z.length (cellsE Z) ∧ Keeps (fun _ => False) W w' :=
  both_probeR h k3_is Z (by rw [m31]; exact hZ)
theorem mt_probe4 {L : List (List En)} (h : Both base W p pl pn q ql 16 [[], X] L) :
    Calls Try.prog 24 #[.pointer (some ⟨p, 0, none⟩), .agg (keyK 4).toArray] W fun e w' => ∃ a c, e = .returned (.slice a 0 c) ∧ Keeps (fun _ => False) W w' :=
  (both_probeD h k4_is [] (by rw [m40]; rfl)).mono fun _ _ ⟨v, h1, h2, h3⟩ => by
    obtain ⟨_, a, c, rfl, _⟩ := h2
    exact ⟨a, c, h1, h3⟩

set_option maxHeartbeats 4000000 in
theorem DirMeets_any (w : World) (a0 : Option Addr) (c0 : Nat) (A : List Nat) (hA : ∀ x ∈ A, x < 256) (hvA : SlR w (.slice a0 A.length c0) 1 A.length (A.map fun x => Value.int .u8 (x : Nat)))
    (a1 : Option Addr) (c1 : Nat) (B : List Nat) (hB : ∀ x ∈ B, x < 256) (hvB : SlR w (.slice a1 B.length c1) 1 B.length (B.map fun x => Value.int .u8 (x : Nat))) :
    Calls Try.prog 5 #[.slice a0 A.length c0, .slice a1 B.length c1] w fun e w' => e = .returned (.bool true) ∧ Keeps (fun _ => False) w w' := by
  have hkn := Lib.hid (known_any w)
  have HA := Lib.hid hA
  have HVA := Lib.hid hvA
  have HB := Lib.hid hB
  have HVB := Lib.hid hvB
  clear hA hvA hB hvB
  by_cases hl1 : 16 < A.length
  · have b1 : (16 : Int) < A.length := by omega
    go_enter Try.func5, Try.ntmps5
    go_wp2_with fail
    refine hkn.out.mono ?_
    rintro e w1 ⟨rfl, hK1⟩
    go_wp2
    go_ret
    exact ⟨rfl, hK1⟩
  by_cases hl2 : 30 < B.length
  · have b1 : ¬ (16 : Int) < A.length := by omega
    have b2 : (30 : Int) < B.length := by omega
    go_enter Try.func5, Try.ntmps5
    go_wp2_with fail
    refine hkn.out.mono ?_
    rintro e w1 ⟨rfl, hK1⟩
    go_wp2
    go_ret
    exact ⟨rfl, hK1⟩
  have b1 : ¬ (16 : Int) < A.length := by omega
  have b2 : ¬ (30 : Int) < B.length := by omega
  go_enter Try.func5, Try.ntmps5
  go_wp2_with fail
  refine hkn.out.mono ?_
  rintro e w1 ⟨rfl, hK1⟩
  have K1 := Lib.hid hK1
  have hs1 := hK1.size
  clear hK1
  go_wp2_with fail
  refine (New_any w1 2 16).mono ?_
  rintro e w2 ⟨p, pl, pn, rfl, hD2, hp, hpl, hpn, hb2⟩
  have K2 := Lib.hid (K1.out.trans (Keeps.ofBelow hb2))
  have hD2' : DirAt w2 p pl pn 16 [[], []] := hD2
  have D2 := Lib.hid hD2'
  have hs2 := hb2.size
  clear hb2 hD2 hD2'
  go_wp2_with fail
  refine (New_ref (fun k => w2.heap.size ≤ k) w2 (fun _ h => h) 2 16).mono ?_
  rintro e w3 ⟨q, ql, rfl, hR3, hb3⟩
  have hR3' : RefAt (fun k => w2.heap.size ≤ k) w3 q ql 16 [[], []] := hR3
  have hBo : Both w.heap.size w3 p pl pn q ql 16 [[], []] [[], []] := Both.ofNew D2.out (by omega) (by omega) (by omega) (by omega) hR3' hb3 (rfl : w = w)
  have BO := Lib.hid hBo
  have K3 := Lib.hid (K2.out.trans (Keeps.ofBelow hb3))
  clear hBo hR3 hR3' hb3 D2 hp hpl hpn
  go_wp2
  go_loopw [7] (fun s7 wr => ∃ (i : Nat) (X : List En), s7 = .int .i64 i ∧ i ≤ A.length ∧ Hid (Both w.heap.size wr p pl pn q ql 16 [[], X] [[], X]) ∧ Hid (Keeps (fun _ => False) w wr)) (fun s7 _ => A.length - (intOf s7).toNat)
  case atStart => exact ⟨0, [], rfl, Nat.zero_le _, BO, K3⟩
  case round =>
    obtain ⟨i, X, rfl, hiN, hB, hK⟩ := hrel
    by_cases hlt : i < A.length
    · obtain ⟨x, hx⟩ : ∃ x, A[i]? = some x := ⟨A[i], by simp [hlt]⟩
      obtain ⟨_, a', c', he', h0⟩ := HVA.out
      cases he'
      rcases h0 with h0 | ⟨b, off, rfl, hbl, hc⟩
      · omega
      have hx256 := HA.out x (List.mem_of_getElem? hx)
      have hcell : ∀ W, Keeps (fun _ => False) w W → W.cell? ⟨b, off + i, none⟩ = some (.int .u8 x) := fun W k => (k.cell (p := ⟨b, off + i, none⟩) hbl id).trans (hc i _ (by rw [List.getElem?_map, hx]; rfl))
      have HCELL := Lib.hid hcell
      have e1 : IntKind.u64.wrap (i : Int) = (i : Int) := by rw [IntKind.wrap_u64]; omega
      have e4 : (i : Int) % 18446744073709551616 = (i : Int) := by omega
      have a2 : (i : Int) < A.length := by omega
      have a3 : (0 : Int) ≤ i := by omega
      have c0 := hcell wr.drew (hK.out.trans (Keeps.drew _ _))
      clear hcell hc hx
      have e5 : (x : Int) % 8 = ((x % 8 : Nat) : Int) := by omega
      have e6 : (x : Int).tmod 8 = ((x % 8 : Nat) : Int) := by rw [Int.tmod_eq_emod_of_nonneg (by omega)]; omega
      have e7 : IntKind.u8.wrap ((x % 8 : Nat) : Int) = ((x % 8 : Nat) : Int) := by rw [IntKind.wrap_u8]; omega
      have e8 : IntKind.u32.wrap ((x % 8 : Nat) : Int) = ((x % 8 : Nat) : Int) := by rw [IntKind.wrap_u32]; omega
      have e9 : ((x % 8 : Nat) : Int) % 4294967296 = ((x % 8 : Nat) : Int) := by omega
      have hx8 : x % 8 < 4294967296 := by omega
      generalize x % 8 = x8 at *
      have hB0 := hB.out.keeps (Keeps.drew (fun _ => False) _)
      have hK0 : Keeps (fun _ => False) w wr.drew := hK.out.trans (Keeps.drew _ _)
      go_wp2
      go_region_held3 (fun w' => w'.cell? ⟨b, off + i, none⟩ = some (.int .u8 x)) (assumption)
        (first
          | (go_at_call 18; refine (key_any _ 3).mono ?_; rintro e w4 ⟨rfl, hb4⟩; have k4 : Keeps (fun _ => False) w w4 := hK0.trans (Keeps.ofBelow hb4); have c4 := HCELL.out w4 k4)
          | (go_at_call 17; refine (mt_insD (hB0.below hb4) x8 i hx8 (by omega)).mono ?_; rintro e w5 ⟨v5, Y, rfl, hY, hB5, hK5⟩; have k5 := k4.transNew (S := fun _ => False) hK5 (fun k h1 h2 => by omega); have c5 := HCELL.out w5 k5))
      have B5 := Lib.hid hB5
      have K5 := Lib.hid k5
      have HY := Lib.hid hY
      clear hB5 k5 hY hb4 k4 hK5 hB0 hK0
      have hB0 := B5.out.keeps (Keeps.drew (fun _ => False) _)
      have hK0 : Keeps (fun _ => False) w w5.drew := K5.out.trans (Keeps.drew _ _)
      have c5 := HCELL.out w5.drew hK0
      go_wp2
      go_region_held3 (fun w' => w'.cell? ⟨b, off + i, none⟩ = some (.int .u8 x)) (assumption)
        (first
          | (go_at_call 18; refine (key_any _ 3).mono ?_; rintro e w6 ⟨rfl, hb6⟩; have k6 : Keeps (fun _ => False) w w6 := hK0.trans (Keeps.ofBelow hb6); have c6 := HCELL.out w6 k6)
          | (go_at_call 21; refine (mt_insR (hB0.below hb6) x8 i hx8 (by omega) HY.out).mono ?_; rintro e w7 ⟨v7, rfl, hB7, hK7⟩; have k7 := k6.transNew (S := fun _ => False) hK7 (fun k h1 h2 => by omega); have c7 := HCELL.out w7 k7))
      have B7 := Lib.hid hB7
      have K7 := Lib.hid k7
      clear hB7 k7 hb6 k6 hK7 hB0 hK0
      have e1' : IntKind.i64.wrap ((i : Int) + 1) = (i : Int) + 1 := by rw [IntKind.wrap_i64]; omega
      go_wp2
      go_roundw
      case rel => exact ⟨i + 1, Y, by first | rfl | (rw [e1']; rfl) | simp [e1'], by omega, B7, K7⟩
      case measure => simp [intOf]; omega
    · obtain rfl : i = A.length := by omega
      have a2 : ¬ ((A.length : Nat) : Int) < A.length := by omega
      have B8 := hB
      have K8 := hK
      clear hB hK
      go_wp2
      go_loopw [8] (fun s8 wr => ∃ (i : Nat) (X : List En), s8 = .int .i64 i ∧ i ≤ B.length ∧ Hid (Both w.heap.size wr p pl pn q ql 16 [[], X] [[], X]) ∧ Hid (Keeps (fun _ => False) w wr)) (fun s8 _ => B.length - (intOf s8).toNat)
      case atStart => exact ⟨0, X, rfl, Nat.zero_le _, B8, K8⟩
      case round =>
        clear B8 K8
        obtain ⟨i, X, rfl, hiN, hB, hK⟩ := hrel
        by_cases hlt : i < B.length
        · obtain ⟨x, hx⟩ : ∃ x, B[i]? = some x := ⟨B[i], by simp [hlt]⟩
          obtain ⟨_, a', c', he', h0⟩ := HVB.out
          cases he'
          rcases h0 with h0 | ⟨b, off, rfl, hbl, hc⟩
          · omega
          have hx256 := HB.out x (List.mem_of_getElem? hx)
          have hcell : ∀ W, Keeps (fun _ => False) w W → W.cell? ⟨b, off + i, none⟩ = some (.int .u8 x) := fun W k => (k.cell (p := ⟨b, off + i, none⟩) hbl id).trans (hc i _ (by rw [List.getElem?_map, hx]; rfl))
          have HCELL := Lib.hid hcell
          have a2 : (i : Int) < B.length := by omega
          have a3 : (0 : Int) ≤ i := by omega
          have c0 := hcell wr.drew (hK.out.trans (Keeps.drew _ _))
          clear hcell hc hx
          have e5 : (x : Int) % 8 = ((x % 8 : Nat) : Int) := by omega
          have e6 : (x : Int).tmod 8 = ((x % 8 : Nat) : Int) := by rw [Int.tmod_eq_emod_of_nonneg (by omega)]; omega
          have e7 : IntKind.u8.wrap ((x % 8 : Nat) : Int) = ((x % 8 : Nat) : Int) := by rw [IntKind.wrap_u8]; omega
          have e8 : IntKind.u32.wrap ((x % 8 : Nat) : Int) = ((x % 8 : Nat) : Int) := by rw [IntKind.wrap_u32]; omega
          have e9 : ((x % 8 : Nat) : Int) % 4294967296 = ((x % 8 : Nat) : Int) := by omega
          generalize x % 8 = x8 at *
          have hB0 := hB.out.keeps (Keeps.drew (fun _ => False) _)
          have hK0 : Keeps (fun _ => False) w wr.drew := hK.out.trans (Keeps.drew _ _)
          go_wp2
          go_region_held3 (fun w' => w'.cell? ⟨b, off + i, none⟩ = some (.int .u8 x)) (assumption)
            (first
              | (go_at_call 18; refine (key_any _ 3).mono ?_; rintro e wn ⟨rfl, hbn⟩; have hB1 := hB0.below hbn; have hK1 : Keeps (fun _ => False) w wn := hK0.trans (Keeps.ofBelow hbn); have cn := HCELL.out wn hK1; clear hB0 hK0; have hB0 := hB1; have hK0 := hK1; clear hB1 hK1)
              | (go_at_call 19; refine (mt_delD hB0 x8).mono ?_; rintro e wn ⟨vd, Y, rfl, hY, hB1, hKn⟩; have hK1 := hK0.transNew (S := fun _ => False) hKn (fun k h1 h2 => by omega); have cn := HCELL.out wn hK1; clear hB0 hK0 hKn; have hB0 := hB1; have hK0 := hK1; clear hB1 hK1)
              | (go_at_call 22; refine (mt_delR hB0 x8 hY).mono ?_; rintro e wn ⟨rfl, hB1, hKn⟩; have hK1 := hK0.transNew (S := fun _ => False) hKn (fun k h1 h2 => by omega); have cn := HCELL.out wn hK1; clear hB0 hK0 hKn; have hB0 := hB1; have hK0 := hK1; clear hB1 hK1)
              | (go_at_call 24; refine (mt_probeD hB0 _ rfl).mono ?_; rintro e wn ⟨v1, rfl, hsl, hKn⟩; have hB1 := hB0.keeps hKn; have hK1 := hK0.trans hKn; have cn := HCELL.out wn hK1; clear hB0 hK0 hKn; have hB0 := hB1; have hK0 := hK1; clear hB1 hK1)
              | (go_at_call 25; refine (mt_probeR hB0 _ rfl).mono ?_; rintro e wn ⟨v2, rfl, hsr, hKn⟩; have hB1 := hB0.keeps hKn; have hK1 := hK0.trans hKn; have cn := HCELL.out wn hK1; have hsn := (hsl.below hbn).keeps hKn (fun _ _ _ _ _ _ h => h); clear hsl; have hsl := hsn; clear hsn; clear hB0 hK0 hKn; have hB0 := hB1; have hK0 := hK1; clear hB1 hK1)
              | (go_at_call 23; refine (Entries_same _ v1 v2 _ hsl hsr (hB0.probe_le 1 0)).mono ?_; rintro e wn ⟨rfl, hKn⟩; have hB1 := hB0.keeps hKn; have hK1 := hK0.trans hKn; have cn := HCELL.out wn hK1; clear hB0 hK0 hKn; have hB0 := hB1; have hK0 := hK1; clear hB1 hK1))
          have B9 := Lib.hid hB0
          have K9 := Lib.hid hK0
          clear hB0 hK0
          have e1' : IntKind.i64.wrap ((i : Int) + 1) = (i : Int) + 1 := by rw [IntKind.wrap_i64]; omega
          go_wp2
          go_roundw
          case rel => exact ⟨i + 1, Y, by first | rfl | (rw [e1']; rfl) | simp [e1'], by omega, B9, K9⟩
          case measure => simp [intOf]; omega
        · obtain rfl : i = B.length := by omega
          have a2 : ¬ ((B.length : Nat) : Int) < B.length := by omega
          go_wp2_with fail
          refine (key_any _ 4).mono ?_
          rintro e w4 ⟨rfl, hb4⟩
          have hB4 := hB.out.below hb4
          have hK4 := hK.out.trans (Keeps.ofBelow hb4)
          have B4 := Lib.hid hB4
          have K4 := Lib.hid hK4
          clear hB4 hK4 hb4
          go_wp2_with fail
          refine (mt_probe4 B4.out).mono ?_
          rintro e w5 ⟨a5, c5, rfl, hK5⟩
          have K5 := Lib.hid (K4.out.trans hK5)
          clear hK5
          go_wp2
          go_ret
          exact ⟨rfl, K5.out⟩
end Go.Proofs.Ythekkddmbomimaa
