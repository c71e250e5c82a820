/- The walk of DirSweeps: it returns true. Conditions: the slice reads as bytes; the numbers fit their kinds. -/
import Derived.Test.YthekkddmbomimaaSweepP
namespace Go.Proofs.Ythekkddmbomimaa
open Go.RowKit
set_option maxRecDepth 100000
attribute [local go_sem] Oper.semAt_some

def cntB (u : Nat) (T : List Nat) : Nat := (T.filter fun x => decide (x < u)).length
theorem cntB_le (u : Nat) (T : List Nat) : cntB u T ≤ T.length := List.length_filter_le _ _
theorem cntB_snoc (u : Nat) (T : List Nat) (i x : Nat) (h : T[i]? = some x) : cntB u (T.take (i + 1)) = cntB u (T.take i) + if x < u then 1 else 0 := by
  unfold cntB
  rw [List.take_add_one, h, Option.toList_some, List.filter_append, List.length_append]
  congr 1
  by_cases hx : x < u <;> simp [hx]
theorem sw_len2 {W : World} {p pl pn : Nat} {L : List (List En)} {n c : Nat} (hD : DirAt W p pl pn 16 L) (hc : c ≤ n) (h : L.flatten.length = n - c) : Calls Try.prog 20 #[.pointer (some ⟨p, 0, none⟩)] W fun e w' => e = .returned (.int .i64 ((n : Int) - c)) ∧ Keeps (fun _ => False) W w' := by
  have := Len_dir hD _ h
  rw [show ((n - c : Nat) : Int) = (n : Int) - c by omega] at this
  exact this

set_option maxHeartbeats 2000000 in
theorem DirSweeps_any (w : World) (a : Option Addr) (c : Nat) (T : List Nat) (hT : ∀ x ∈ T, x < 256) (hv : SlR w (.slice a T.length c) 1 T.length (T.map fun x => Value.int .u8 (x : Nat))) (u f : Nat) (hu : u < 256) (hf : f < 256) :
    Calls Try.prog 6 #[.slice a T.length c, .int .u8 u, .int .u8 f] w fun e w' => e = .returned (.bool true) ∧ Keeps (fun _ => False) w w' := by
  have hkn := Lib.hid (known_any w)
  by_cases hlong : 30 < T.length
  · have a1 : (30 : Int) < T.length := by omega
    clear hv hT
    go_enter Try.func6, Try.ntmps6
    go_wp2_with fail
    refine hkn.out.mono ?_
    rintro e w1 ⟨rfl, hK1⟩
    go_wp2
    go_ret
    exact ⟨rfl, hK1⟩
  · have a1 : ¬ (30 : Int) < T.length := by omega
    have eu : IntKind.u64.wrap (u : Int) = (u : Int) := by rw [IntKind.wrap_u64]; omega
    have ef : IntKind.u32.wrap (f : Int) = (f : Int) := by rw [IntKind.wrap_u32]; omega
    have HT := Lib.hid hT
    have HV := Lib.hid hv
    clear hT hv
    go_enter Try.func6, Try.ntmps6
    go_wp2_with fail
    refine hkn.out.mono ?_
    rintro e w1 ⟨rfl, hK1⟩
    have K1 := Lib.hid hK1
    have hs1 := hK1.size
    clear hK1
    go_wp2_with fail
    refine (New_any w1 64 16).mono ?_
    rintro e w2 ⟨p, pl, pn, rfl, hD2, hp, hpl, hpn, hb2⟩
    have K2 := Lib.hid (K1.out.trans (Keeps.ofBelow hb2))
    have hD2' : DirAt w2 p pl pn 16 (List.replicate 64 []) := hD2
    have D2 := Lib.hid hD2'
    have hpl' : w.heap.size ≤ pl := by omega
    have hpn' : w.heap.size ≤ pn := by omega
    have S2 := Lib.hid (Sw.zero T)
    clear hb2 hD2 hD2'
    go_wp2
    go_loopw [8, 9] (fun s8 s9 wr => ∃ (i el : Nat) (L : List (List En)), s8 = .int .i64 el ∧ s9 = .int .i64 i ∧ i ≤ T.length ∧ Hid (el = cntB u (T.take i)) ∧ Hid (DirAt wr p pl pn 16 L) ∧ Hid (Sw T i L) ∧ Hid (Keeps (fun _ => False) w wr)) (fun _ s9 _ => T.length - (intOf s9).toNat)
    case atStart => exact ⟨0, 0, _, rfl, rfl, by omega, Lib.hid rfl, D2, S2, K2⟩
    case round =>
      obtain ⟨i, el, L, rfl, rfl, hiN, hel, hD, hS, hK⟩ := hrel
      by_cases hlt : i < T.length
      · obtain ⟨x, hx⟩ : ∃ x, T[i]? = some x := ⟨T[i], by simp [hlt]⟩
        obtain ⟨_, a', c', he', h0⟩ := HV.out
        cases he'
        rcases h0 with h0 | ⟨b, off, rfl, hbl, hc⟩
        · omega
        have hx256 := HT.out x (List.mem_of_getElem? hx)
        have hcell : ∀ W, Keeps (fun _ => False) w W → W.cell? ⟨b, off + i, none⟩ = some (.int .u8 x) := fun W k => (k.cell (p := ⟨b, off + i, none⟩) hbl id).trans (hc i _ (by rw [List.getElem?_map, hx]; rfl))
        have HCELL := Lib.hid hcell
        have hel30 : el ≤ 30 := by
          rw [hel.out]; have := cntB_le u (T.take i); rw [List.length_take] at this; omega
        have hsn := cntB_snoc u T i x hx
        rw [← hel.out] at hsn
        have HSN := Lib.hid hsn
        have HX := Lib.hid hx
        have e1 : IntKind.u16.wrap (i : Int) = (i : Int) := by rw [IntKind.wrap_u16]; omega
        have e2 : IntKind.u32.wrap (i : Int) = (i : Int) := by rw [IntKind.wrap_u32]; omega
        have e3 : IntKind.u64.wrap (x : Int) = (x : Int) := by rw [IntKind.wrap_u64]; omega
        have e1' : (i : Int) % 65536 = (i : Int) := by omega
        have e2' : (i : Int) % 4294967296 = (i : Int) := by omega
        have a2 : (i : Int) < T.length := by omega
        have a3 : (0 : Int) ≤ i := by omega
        have c0 := hcell wr.drew (hK.out.trans (Keeps.drew _ _))
        clear hcell hc hsn hx
        go_wp2
        go_region_held3 (fun w' => w'.cell? ⟨b, off + i, none⟩ = some (.int .u8 x)) (assumption)
          (first
            | (go_at_call 18; refine (key_any _ i).mono ?_; rintro e w4 ⟨rfl, hb4⟩; have k4 : Keeps (fun _ => False) w w4 := (hK.out.trans (Keeps.drew _ _)).trans (Keeps.ofBelow hb4); have c4 := HCELL.out w4 k4)
            | (go_at_call 17; refine (sw_ins ((hD.out.keeps (Keeps.drew (fun _ => False) _) id id id).below hb4) hS.out HX.out hx256 (by omega)).mono ?_; rintro e w5 ⟨L5, rfl, hD5, hS5, hK5⟩; have k5 := k4.transNew (S := fun _ => False) hK5 (fun k h1 h2 => by omega); have c5 := HCELL.out w5 k5))
        have D5 := Lib.hid hD5
        have S5 := Lib.hid hS5
        have K5 := Lib.hid k5
        clear hD5 hS5 k5 hK5 hb4 k4
        by_cases hxu : x < u
        · have a4 : (x : Int) < u := by omega
          rw [if_pos hxu] at HSN
          go_wp2
          go_roundw
          case rel => exact ⟨i + 1, el + 1, L5, by go_num, by go_num, by omega, Lib.hid HSN.out.symm, D5, S5, K5⟩
          case measure => simp [intOf]; omega
        · have a4 : ¬ (x : Int) < u := by omega
          rw [if_neg hxu] at HSN
          go_wp2
          go_roundw
          case rel => exact ⟨i + 1, el, L5, rfl, by go_num, by omega, Lib.hid HSN.out.symm, D5, S5, K5⟩
          case measure => simp [intOf]; omega
      · obtain rfl : i = T.length := by omega
        have a2 : ¬ ((T.length : Nat) : Int) < T.length := by omega
        have hcnt : el = cntB u T := by rw [hel.out, List.take_length]
        have hcl := cntB_le u T
        have hal := hS.out.all
        have HP1 : ∀ W, DirAt W p pl pn 16 L → Calls Try.prog 26 #[.pointer (some ⟨p, 0, none⟩), .int .u32 0, .int .u32 1000, .int .u64 u] W fun e w' => ∃ L', e = .returned (.int .i64 el) ∧ DirAt w' p pl pn 16 L' ∧ Keeps (fun k => k = pl ∨ k = pn) W w' ∧
            L'.flatten.length = T.length - el ∧ ∀ l ∈ L', ∀ e ∈ l, gone 0 1000 u e = false := fun W hW => by rw [hcnt]; exact sw_purge1 hW hS.out hu
        have HPP := Lib.hid HP1
        have hel2 : el ≤ T.length := by omega
        have e6 : IntKind.i64.wrap ((T.length : Int) - el) = (T.length : Int) - el := by rw [IntKind.wrap_i64]; omega
        have HAL := Lib.hid hal
        clear hal HP1 hcnt hel hS
        go_wp2_with fail
        refine (sw_purge0 (u := u) hD.out (Nat.le_refl f) (by omega) (by omega) (by omega)).mono ?_
        rintro e w4 ⟨rfl, hD4, hK4⟩
        have K4 := Lib.hid (hK.out.transNew (S := fun _ => False) hK4 (fun k h1 h2 => by omega))
        have D4 := Lib.hid hD4
        clear hD4 hK4
        go_wp2_with fail
        refine (sw_purge0 (u := u) D4.out (show 3 ≤ 9 by omega) (by omega) (by omega) (by omega)).mono ?_
        rintro e w5 ⟨rfl, hD5, hK5⟩
        have K5 := Lib.hid (K4.out.transNew (S := fun _ => False) hK5 (fun k h1 h2 => by omega))
        have D5 := Lib.hid hD5
        clear hD5 hK5
        go_wp2_with fail
        refine (Len_dir D5.out T.length HAL.out).mono ?_
        rintro e w6 ⟨rfl, hK6⟩
        have K6 := Lib.hid (K5.out.trans hK6)
        have D6 := Lib.hid (D5.out.keeps hK6 id id id)
        clear hK6
        go_wp2_with fail
        refine (HPP.out w6 D6.out).mono ?_
        rintro e w7 ⟨L7, rfl, hD7, hK7, hl7, hg7⟩
        have K7 := Lib.hid (K6.out.transNew (S := fun _ => False) hK7 (fun k h1 h2 => by omega))
        have D7 := Lib.hid hD7
        have G7 := Lib.hid hg7
        have HL7 := Lib.hid hl7
        clear hD7 hK7 hg7 hl7
        go_wp2_with fail
        refine (sw_len2 D7.out hel2 HL7.out).mono ?_
        rintro e w8 ⟨rfl, hK8⟩
        have K8 := Lib.hid (K7.out.trans hK8)
        have D8 := Lib.hid (D7.out.keeps hK8 id id id)
        clear hK8
        go_wp2_with fail
        refine (sw_purge2 D8.out hu G7.out).mono ?_
        rintro e w9 ⟨rfl, hK9⟩
        have K9 := Lib.hid (K8.out.transNew (S := fun _ => False) hK9 (fun k h1 h2 => by omega))
        clear hK9
        go_wp2
        go_ret
        exact ⟨rfl, K9.out⟩
end Go.Proofs.Ythekkddmbomimaa
