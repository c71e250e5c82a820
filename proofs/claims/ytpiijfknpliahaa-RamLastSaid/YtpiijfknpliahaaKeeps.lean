/- The walk of RamKeeps: it returns true. Conditions: the slice reads as bytes. -/
import Derived.Test.YtpiijfknpliahaaRamR
namespace Go.Proofs.Ytpiijfknpliahaa
open Go.RowKit
set_option maxRecDepth 100000
attribute [local go_sem] Oper.semAt_some

theorem Bytes_same {w : World} {v1 v2 : Value} {b : List Nat} (hb : 0 < b.length) (h1 : SlR w v1 1 b.length (bytesV b)) (h2 : SlR w v2 1 b.length (bytesV b)) : Calls Try.prog 21 #[v1, v2] w fun e w' => e = .returned (.bool true) ∧ w' = w := by
  obtain ⟨a1, c1, rfl⟩ := h1.form
  obtain ⟨a2, c2, rfl⟩ := h2.form
  have s1 := h1.str hb
  have s2 := h2.str hb
  generalize strB b = s at *
  clear h1 h2
  go_enter Try.func21, Try.ntmps21
  go_wp2
  go_ret
  exact ⟨by simp, rfl⟩
theorem SlO.first {w : World} {v : Value} {b : List Nat} (h : SlO w v 5 1 b.length (bytesV b)) (hb : 0 < b.length) : ∃ g off c x, v = .slice (some ⟨g, off, none⟩) b.length c ∧ blkOf v = some g ∧ w.cell? ⟨g, off, none⟩ = some (.int .u8 x) ∧ w.frozen? ⟨g, off, none⟩ = false := by
  obtain ⟨hl, a, c, rfl, hnc, hm, h2⟩ := h
  rcases h2 with rfl | ⟨g, off, cur, rfl, hg, hc, ht⟩
  · omega
  · have h0 : (bytesV b)[0]? = some (.int .u8 ((b[0]'hb : Nat) : Int)) := by simp [bytesV, hb]
    rw [← ht, List.getElem?_take] at h0
    split at h0
    · rw [List.getElem?_drop, Nat.add_zero] at h0
      refine ⟨g, off, c, _, rfl, ?_, hg.cell h0, hg.frozen off⟩
      cases c with
      | zero => omega
      | succ c => rfl
    · cases h0
theorem St.write {w0 w : World} {ro : Nat → Nat} {r lim used : Nat} {L P : Ents} (h : St w0 ro w r lim used L P) (g off : Nat) (v : Value) (hr : ro g = 0) (hg : w0.heap.size ≤ g) : St w0 ro (w.setCell ⟨g, off, none⟩ v) r lim used L P := by
  have hk : Keeps (fun b => b = g) w (w.setCell ⟨g, off, none⟩ v) := Keeps.setCell _ _ _ (fun _ => rfl)
  exact ⟨h.ram.keeps hk (fun b e => by subst e; exact hr), h.kept.transNew hk (fun b hb e => by subst e; omega), h.new⟩

set_option maxHeartbeats 4000000 in
theorem RamKeeps_any (w : World) (a : Option Addr) (c : Nat) (T : List Nat) (hv : SlR w (.slice a T.length c) 1 T.length (bytesV T)) (x : Int) : Calls Try.prog 5 #[.slice a T.length c, .int .u8 x] w fun e w' => e = .returned (.bool true) ∧ Keeps (fun _ => False) w w' := by
  have HKN := Lib.hid (known_any w)
  by_cases h0 : T.length = 0
  · have a0 : ((T.length : Int) == 0) = true := by rw [h0]; rfl
    clear hv
    go_enter Try.func5, Try.ntmps5
    go_wp2_with fail
    refine HKN.out.mono ?_
    rintro e w1 ⟨rfl, hk1⟩
    go_wp2
    go_ret
    exact ⟨rfl, hk1⟩
  have a0 : ((T.length : Int) == 0) = false := beq_eq_false_iff_ne.2 (by omega)
  by_cases h1 : 100 < T.length
  · have a1 : (100 : Int) < T.length := by omega
    clear hv
    go_enter Try.func5, Try.ntmps5
    go_wp2_with fail
    refine HKN.out.mono ?_
    rintro e w1 ⟨rfl, hk1⟩
    go_wp2
    go_ret
    exact ⟨rfl, hk1⟩
  have a1 : ¬ (100 : Int) < T.length := by omega
  have hT0 : 0 < T.length := by omega
  obtain ⟨i0, hi0, hz0, hs0, hb0⟩ := info_parts info5
  have HI0 := Lib.hid hi0
  have HZ0 := Lib.hid hz0
  have HS0 := Lib.hid hs0
  have HB0 := Lib.hid hb0
  have HV := Lib.hid hv
  clear hv hi0 hz0 hs0 hb0
  go_enter Try.func5, Try.ntmps5
  go_wp2_with fail
  refine HKN.out.mono ?_
  rintro e w1 ⟨rfl, hk1⟩
  obtain ⟨v2, w2, hrun, hown, hk2, hbk⟩ := run_appendO (P := Try.prog) (w := w1) 27 27 27 5 i0 _ 1 1 Try.underlying27 Try.underlying27 HI0.out HZ0.out HS0.out HB0.out rfl (SlO.nil w1 5 1) (HV.out.keeps hk1 (fun _ _ _ _ _ _ h => h)) (bytesV_one T) (by unfold maxLen; omega) (by omega)
  rw [Nat.zero_add, List.nil_append] at hown
  obtain ⟨g, off, cc, x0, rfl, hbg, hcg, hfg⟩ := hown.first hT0
  have hk12 : Keeps (fun _ => False) w w2 := hk1.trans (hk2.mono (fun k h => by simp [blkOf] at h))
  have hg1 : w.heap.size ≤ g ∧ g < w2.heap.size := by
    have hs := hk1.size
    rcases hbk with e | ⟨e, h2⟩
    · rw [e] at hbg; simp [blkOf] at hbg
    · rw [e] at hbg; have := Option.some.inj hbg; omega
  have HR := Lib.hid hrun
  have HO := Lib.hid hown
  have K2 := Lib.hid hk12
  have HG := Lib.hid hg1
  clear hrun hown hk2 hbk hk1 hk12 hcg hfg hbg hg1
  go_wp2_with (first | (refine wpList_runAppend rfl (.const (.slice none 0 0)) (.tmp 21) 27 27 rfl (.slice (some ⟨g, off, none⟩) T.length cc) w2 ?_ ?_; exact HR.out))
  refine (new_st w2 w2 (Keeps.refl _ _) 1000 1000 (by decide)).mono ?_
  rintro e w3 ⟨r, ro3, rfl, h3⟩
  have H3 := Lib.hid h3
  clear h3 HR
  go_wp2_with fail
  refine (key_any w3 1 (by omega)).mono ?_
  rintro e w4 ⟨rfl, hk4⟩
  have H4 := Lib.hid (H3.out.below hk4)
  clear hk4
  go_wp2_with fail
  refine (put_easy H4.out (by omega) (by simp) (by simp) (by omega) (fun p hp => by cases hp) 1 _ T (HO.out.keeps H4.out.kept (fun _ _ h => h)).slr (by omega) ⟨none, false, 0, [], []⟩ rfl (by simp) (by simp) (by simp; omega)).mono ?_
  rintro e w5 ⟨rfl, ro5, e5, h5, -⟩
  have h5' : St w2 ro5 w5 r 1000 (0 + (T.length + 64)) [(e5, putIt 1 T none)] [] := h5
  have hc5 := HO.out.keeps h5'.kept (fun _ _ h => h)
  obtain ⟨g', off', cc', x5, he5, hb5, hcg, hfg⟩ := hc5.first hT0
  obtain ⟨rfl, rfl, rfl⟩ : g = g' ∧ off = off' ∧ cc = cc' := by cases he5; exact ⟨rfl, rfl, rfl⟩
  have hro : ro5 g = 0 := by
    by_cases e : ro5 g = 0
    · exact e
    · have := h5'.new g e; have := HG.out.2; omega
  have hw : St w ro5 w5 r 1000 (0 + (T.length + 64)) [(e5, putIt 1 T none)] [] := ⟨h5'.ram, K2.out.trans h5'.kept, fun b hb => by have := h5'.new b hb; have := K2.out.size; omega⟩
  have H5 := Lib.hid hw
  have HRO := Lib.hid hro
  clear h5 h5' hc5 he5 hb5 hw hro H3 H4
  have b0 : (0 : Int) < T.length := by omega
  go_wp2_with fail
  refine (key_any _ 1 (by omega)).mono ?_
  rintro e w7 ⟨rfl, hk7⟩
  have H7 := Lib.hid ((H5.out.write g off _ HRO.out HG.out.1).below hk7)
  clear hk7 hcg hfg
  go_wp2_with fail
  refine (Get_hit H7.out.ram (by simp) 1 0 (e5, putIt 1 T none) rfl rfl).mono ?_
  rintro e w8 ⟨v8, ro8, rfl, hR8, hK8, hG8, hv8, hf8⟩
  have h8 : St w ro8 w8 r 1000 (0 + (T.length + 64)) [(e5, hitI (putIt 1 T none))] [] := H7.out.step hR8 hK8 hG8
  have hv8' : SlO w8 v8 5 1 T.length (bytesV T) := hv8
  obtain ⟨g8, off8, c8, x8, rfl, hb8, hc8, hf8'⟩ := hv8'.first hT0
  have hro8 := (hf8 g8 hb8).2
  have hg8 : w.heap.size ≤ g8 := Nat.le_trans H7.out.kept.size (hf8 g8 hb8).1
  have H8 := Lib.hid h8
  have HV8 := Lib.hid hv8'
  have HRO8 := Lib.hid hro8
  have HG8 := Lib.hid hg8
  clear h8 hv8 hv8' hR8 hK8 hG8 hf8 hb8 hro8 hg8 H5 H7
  go_wp2_with fail
  refine (Bytes_same hT0 HV8.out.slr (HV.out.keeps H8.out.kept (fun _ _ _ _ _ _ h => h))).mono ?_
  rintro e w9 ⟨rfl, rfl⟩
  go_wp2_with fail
  refine (key_any _ 1 (by omega)).mono ?_
  rintro e w10 ⟨rfl, hk10⟩
  have H10 := Lib.hid ((H8.out.write g8 off8 _ HRO8.out HG8.out).below hk10)
  clear hk10 hc8 hf8'
  go_wp2_with fail
  refine (Get_hit H10.out.ram (by simp) 1 0 (e5, hitI (putIt 1 T none)) rfl rfl).mono ?_
  rintro e w11 ⟨v11, ro11, rfl, hR11, hK11, hG11, hv11, -⟩
  have h11 := H10.out.step hR11 hK11 hG11
  have hv11' : SlO w11 v11 5 1 T.length (bytesV T) := hv11
  have hk11 := h11.kept
  have HV11 := Lib.hid hv11'
  have K11 := Lib.hid hk11
  clear hR11 hK11 hG11 hv11 hv11' h11 hk11 H8 H10
  go_wp2_with fail
  refine (Bytes_same hT0 HV11.out.slr (HV.out.keeps K11.out (fun _ _ _ _ _ _ h => h))).mono ?_
  rintro e w12 ⟨rfl, rfl⟩
  go_wp2
  go_ret
  exact ⟨rfl, K11.out⟩
end Go.Proofs.Ytpiijfknpliahaa
