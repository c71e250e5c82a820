/- The statements' own 'known': it says true, and leaves all that stood as it stood. Conditions: none. -/
import Derived.Test.YtpiijfknpliahaaRamQ
import Derived.Laws.BytesArg
namespace Go.Proofs.Ytpiijfknpliahaa
open Go.RowKit
set_option maxRecDepth 100000
attribute [local go_sem] Oper.semAt_some

def strB (b : List Nat) : ByteArray := strOfNums (b.map fun x : Nat => (x : Int))
theorem SlR.str {w : World} {a : Option Addr} {c : Nat} {b : List Nat} (h : SlR w (.slice a b.length c) 1 b.length (bytesV b)) (hb : 0 < b.length) : (convert 27 9 (.slice a b.length c)).run Try.prog w = .ok (.string (strB b)) w := by
  obtain ⟨_, a', c', he, h0⟩ := h
  cases he
  rcases h0 with h0 | ⟨g, off, rfl, _, hc⟩
  · omega
  · refine run_convert_bytes_arg (P := Try.prog) w 27 5 Try.underlying27 Try.underlying5 g off b.length c (b.map fun x : Nat => (x : Int)) (by simp) (fun i hi => ?_) 9 Try.underlying9
    have : (bytesV b)[i]? = some (.int .u8 ((b.map fun x : Nat => (x : Int)).getD i 0)) := by
      simp [bytesV, hi]
    exact hc i _ this
theorem make5 (n : Nat) (hn : n ≤ 65536) (W : World) : (Instr.makeSlice 27 (.int .i64 n) (.int .i64 n)).run Try.prog W = .ok (.slice (some ⟨W.heap.size, 0, none⟩) n n) (W.alloc (.cells (bytesV (List.replicate n 0)).toArray 5)) := by
  obtain ⟨i1, hi1, hz1, hs1, hb1⟩ := info_parts info5
  have := run_make (P := Try.prog) (w := W) 27 5 i1 _ Try.underlying27 hi1 hz1 .i64 .i64 n n (by omega) (by omega) (by rw [hb1]; omega) (by omega)
  rw [hs1, Int.toNat_natCast] at this
  rw [this]
  congr 3
  apply Array.ext'
  rw [Nat.mul_one]
  refine (toList_madeCells_one _ _).trans ?_
  simp [bytesV]
theorem run_makeOp {n : Nat} (hn : n ≤ 65536) {w : World} {ρ : Operand → Value} {o : Oper} (x y : Operand) (ho : o.op = .makeSlice 27 x y) (hx : ρ x = .int .i64 n) (hy : ρ y = .int .i64 n) :
    (execOp ρ o).run Try.prog w = .ok (.value (.slice (some ⟨w.heap.size, 0, none⟩) n n)) (w.alloc (.cells (bytesV (List.replicate n 0)).toArray 5)) := by
  simp [execOp, ho, hx, hy, make5 n hn w, Result.andThen]
theorem slr_bytes {w : World} {g : Nat} {b : List Nat} (h : Blk w g (bytesV b) 5) : SlR w (.slice (some ⟨g, 0, none⟩) b.length b.length) 1 b.length (bytesV b) := by
  have := h.slr 0 1 b.length b.length (by simp [bytesV])
  rw [List.drop_zero, List.take_of_length_le (by simp [bytesV])] at this
  exact this
theorem freeze_at (w : World) (g n : Nat) (k : Nat) (hk : k ≠ g) : (w.freeze ⟨g, n, none⟩ 1).heap[k]? = w.heap[k]? := by
  simp [World.freeze, Array.getElem?_modify, Ne.symm hk]
theorem freeze_same (w : World) (g n : Nat) {cs : List Value} {t : TypeId} (hg : Blk w g cs t) : ∃ fr, (w.freeze ⟨g, n, none⟩ 1).heap[g]? = some (.cells cs.toArray t fr) := by
  unfold Blk at hg
  simp [World.freeze, Array.getElem?_modify, hg]
theorem keeps_freeze (w : World) (g n : Nat) : Keeps (fun b => b = g) w (w.freeze ⟨g, n, none⟩ 1) :=
  ⟨rfl, rfl, rfl, by simp [World.freeze], fun k _ hk => freeze_at w g n k hk⟩
/-- A string's bytes, as a slice: the model marks the block behind its end; its cells read as they read. -/
theorem run_conv27 {w : World} {g n c : Nat} {cs : List Value} (hg : Blk w g cs 5) : (convert 27 27 (.slice (some ⟨g, 0, none⟩) n c)).run Try.prog w = .ok (.slice (some ⟨g, 0, none⟩) n c) (w.freeze ⟨g, cs.length, none⟩ 1) := by
  have hsh : w.shape? g = some (5, cs.length) := by
    unfold Blk at hg
    simp [World.shape?, hg]
  simp [convert, run_underlying Try.underlying27, run_underlying Try.underlying5, markStringish, hsh, Result.andThen]
theorem slr_freeze {w : World} {g n : Nat} {b : List Nat} (h : Blk w g (bytesV b) 5) : SlR (w.freeze ⟨g, n, none⟩ 1) (.slice (some ⟨g, 0, none⟩) b.length b.length) 1 b.length (bytesV b) := by
  obtain ⟨fr, hf⟩ := freeze_same w g n h
  refine ⟨by simp [bytesV], _, _, rfl, .inr ⟨g, 0, rfl, (Array.getElem?_eq_some_iff.1 hf).1, fun j u hu => ?_⟩⟩
  rw [Nat.zero_add, cell_of_row _ g j _ _ _ hf]
  simpa using hu
def kx (h : Nat) : It := ⟨1, [104, 105], 66, h⟩

set_option maxHeartbeats 4000000 in
theorem known_any (w : World) : Calls Try.prog 9 #[] w fun e w' => e = .returned (.bool true) ∧ Keeps (fun _ => False) w w' := by
  go_enter Try.func9, Try.ntmps9
  go_wp2_with fail
  refine (new_st w w (Keeps.refl _ _) 200 200 (by decide)).mono ?_
  rintro e w1 ⟨r, ro1, rfl, h1⟩
  have H1 := Lib.hid h1
  clear h1
  go_wp2_with fail
  refine (key_any w1 1 (by omega)).mono ?_
  rintro e w2 ⟨rfl, hk2⟩
  have hb3 : Blk (w2.alloc (.cells (bytesV [104, 105]).toArray 5)) w2.heap.size (bytesV [104, 105]) 5 := Blk.new _ _ _
  have hcv := run_conv27 (n := 2) (c := 2) hb3
  have h3 := ((H1.out.below hk2).below ((Keeps.alloc _ _ (.cells (bytesV [104, 105]).toArray 5)).transNew (keeps_freeze _ w2.heap.size (bytesV [104, 105]).length) (fun b hb e => by omega)))
  have hs3 := slr_freeze (n := (bytesV [104, 105]).length) hb3
  generalize (w2.alloc (.cells (bytesV [104, 105]).toArray 5)).freeze ⟨w2.heap.size, (bytesV [104, 105]).length, none⟩ 1 = w3 at *
  have H3 := Lib.hid h3
  have HB3 := Lib.hid hs3
  change (convert 27 27 _).run Try.prog (w2.alloc (.cells #[.int .u8 104, .int .u8 105] 5)) = _ at hcv
  clear h3 hb3 hk2 H1 hs3
  go_wp2_with fail
  refine (put_easy H3.out (by omega) (by simp) (by simp) (by omega) (fun p hp => by cases hp) 1 _ [104, 105] HB3.out (by simp) ⟨none, false, 0, [], []⟩ rfl (by simp) (by simp) (by simp)).mono ?_
  rintro e w4 ⟨rfl, ro4, e4, h4, -⟩
  have h4' : St w ro4 w4 r 200 66 [(e4, kx 1)] [] := h4
  have H4 := Lib.hid h4'
  clear h4 h4' H3 HB3
  go_wp2_with fail
  refine (key_any w4 1 (by omega)).mono ?_
  rintro e w5 ⟨rfl, hk5⟩
  have H5 := Lib.hid (H4.out.below hk5)
  clear hk5 H4
  go_wp2_with fail
  refine (Get_hit H5.out.ram (by simp) 1 0 (e4, kx 1) rfl rfl).mono ?_
  rintro e w6 ⟨v6, ro6, rfl, hR6, hK6, hG6, hv6, hf6⟩
  have h6 := H5.out.step hR6 hK6 hG6
  have h6' : St w ro6 w6 r 200 66 [(e4, kx 2)] [] := h6
  have H6 := Lib.hid h6'
  have hv6' : SlO w6 v6 5 1 2 (bytesV [104, 105]) := hv6
  have HV6 := Lib.hid hv6'
  have HF6 := Lib.hid hf6
  clear h6 h6' hv6 hf6 hR6 hK6 hG6 H5
  obtain ⟨va, vc, rfl, _⟩ := hv6'.form
  clear hv6'
  go_wp2
  refine wp_region_held_drew (S := fun _ => True) (by kernel_rfl) trivial (fun _ => ?_)
  refine take_at 0 (some 20) (.pointer (some ⟨r, 0, none⟩)) rfl rfl (by kernel_rfl) (by kernel_rfl) (by kernel_rfl) (fun _ _ _ h => h) (.inl ⟨by rfl, fun w' hS => ?_⟩) trivial ?_
  · go_simp
  try simp only [Act.put, List.setIfInBounds_toArray, List.set_cons_zero, List.set_cons_succ]
  refine wpAnyH_all (rs := [1, 2]) (by kernel_rfl) (by simp) ?_
  intro ix hix
  have hor : ix = 1 ∨ ix = 2 := by simpa using hix
  clear hix
  rcases hor with rfl | rfl
  · refine call_atG (some 21) rfl rfl rfl 13 #[.int .i64 2] ?_ ?_
    · go_simp
    refine (key_any _ 2 (by omega)).mono ?_
    rintro e w7 ⟨rfl, hk7⟩
    refine ⟨_, rfl, trivial, ?_⟩
    try simp only [Act.put, List.setIfInBounds_toArray, List.set_cons_zero, List.set_cons_succ]
    refine wpAnyH_all (rs := [2]) (by kernel_rfl) (by simp) ?_
    intro i2 hi2
    obtain rfl : i2 = 2 := by simpa using hi2
    refine run_at (w' := w7.alloc (.cells (bytesV (List.replicate 300 0)).toArray 5)) (some 22) (.slice (some ⟨w7.heap.size, 0, none⟩) 300 300) rfl rfl rfl (run_makeOp (n := 300) (by omega) (.const (.int .i64 300)) (.const (.int .i64 300)) rfl rfl rfl) ?_
    refine ⟨trivial, ?_⟩
    try simp only [Act.put, List.setIfInBounds_toArray, List.set_cons_zero, List.set_cons_succ]
    have HX := Lib.hid ((H6.out.below ((Keeps.drew _ _).trans hk7)).below (Keeps.alloc _ _ (.cells (bytesV (List.replicate 300 0)).toArray 5)))
    have HKX := Lib.hid ((HV6.out.keeps ((Keeps.drew (fun _ => False) _).trans hk7) (fun _ _ h => h)).keeps (Keeps.alloc (fun _ => False) _ (.cells (bytesV (List.replicate 300 0)).toArray 5)) (fun _ _ h => h))
    have HZX := Lib.hid (slr_bytes (Blk.new w7 (bytesV (List.replicate 300 0)) 5))
    clear hk7
    refine wpAnyH_all (rs := [3]) (by kernel_rfl) (by simp) ?_
    intro i3 hi3
    obtain rfl : i3 = 3 := by simpa using hi3
    refine call_atG (some 23) rfl rfl rfl 12 #[.pointer (some ⟨r, 0, none⟩), .agg (keyR 2).toArray, .slice (some ⟨w7.heap.size, 0, none⟩) 300 300] ?_ ?_
    · go_simp
    refine (put_big HX.out (by simp) (by simp) (by omega) (fun p hp => by
      obtain rfl : p = (e4, kx 2) := by simpa using hp
      show 66 ≤ 66
      omega) 2 _ (List.replicate 300 0) HZX.out (by simp) ⟨none, false, 66, [(e4, kx 2)], []⟩ rfl (by simp) (by simp) (by simp) (by simp)).mono ?_
    rintro e w9 ⟨rfl, ro9, e9, h9, hK9⟩
    have h9' : St w ro9 w9 r 200 66 [(e4, kx 2)] [(e9, oldI (putIt 2 (List.replicate 300 0) none))] := h9
    have H9 := Lib.hid h9'
    have hv9 := slo_apart hK9 (HKX.out) (fun g hg => (HF6.out g hg).2)
    have hcv9 := hv9.slr.str (b := [104, 105]) (by simp)
    change (convert 27 9 (.slice va 2 vc)).run Try.prog w9 = _ at hcv9
    rw [show strB [104, 105] = ⟨#[104, 105]⟩ from rfl] at hcv9
    have HCV := Lib.hid hcv9
    refine ⟨_, rfl, trivial, ?_⟩
    try simp only [Act.put, List.setIfInBounds_toArray, List.set_cons_zero, List.set_cons_succ]
    refine take_at 4 (some 5) (.bool false) rfl rfl (by kernel_rfl) (by kernel_rfl) (by kernel_rfl) (fun _ _ _ h => h) (.inl ⟨by rfl, fun w' hS => ?_⟩) trivial ?_
    · go_simp
    try simp only [Act.put, List.setIfInBounds_toArray, List.set_cons_zero, List.set_cons_succ]
    refine wpAnyH_done (by kernel_rfl) ?_ _
    clear h9 h9' hK9 hv9 hcv9 HX HZX HKX
    have hcv9 := HCV.out
    go_wp2_with fail
    refine (key_any w9 1 (by omega)).mono ?_
    rintro e w10 ⟨rfl, hk10⟩
    have H10 := Lib.hid (H9.out.below hk10)
    clear hk10 hcv9
    go_wp2_with fail
    refine (Hits_any H10.out.ram (by simp) (by simp) 1 2 rfl).mono ?_
    rintro e w11 ⟨rfl, hk11⟩
    have H11 := Lib.hid (H10.out.below hk11)
    clear hk11
    go_wp2_with fail
    refine (Used_any H11.out.ram).mono ?_
    rintro e w12 ⟨rfl, hk12⟩
    have H12 := Lib.hid (H11.out.below hk12)
    clear hk12
    go_wp2_with fail
    refine (Keys_any H12.out.ram (by simp)).mono ?_
    rintro e w13 ⟨ka, kc, rfl, -, hk13⟩
    have H13 := Lib.hid (H12.out.below hk13)
    clear hk13
    go_wp2_with fail
    refine (History_any H13.out.ram (by simp)).mono ?_
    rintro e w14 ⟨ha, hc, rfl, -, hk14⟩
    have H14 := Lib.hid (H13.out.below hk14)
    clear hk14
    go_wp2
    go_ret
    exact ⟨rfl, H14.out.kept⟩
  · refine run_at (w' := w6.drew.alloc (.cells (bytesV (List.replicate 300 0)).toArray 5)) (some 22) (.slice (some ⟨w6.drew.heap.size, 0, none⟩) 300 300) rfl rfl rfl (run_makeOp (n := 300) (by omega) (.const (.int .i64 300)) (.const (.int .i64 300)) rfl rfl rfl) ?_
    refine ⟨trivial, ?_⟩
    try simp only [Act.put, List.setIfInBounds_toArray, List.set_cons_zero, List.set_cons_succ]
    refine wpAnyH_all (rs := [1]) (by kernel_rfl) (by simp) ?_
    intro i1 hi1
    obtain rfl : i1 = 1 := by simpa using hi1
    refine call_atG (some 21) rfl rfl rfl 13 #[.int .i64 2] ?_ ?_
    · go_simp
    refine (key_any _ 2 (by omega)).mono ?_
    rintro e w7 ⟨rfl, hk7⟩
    refine ⟨_, rfl, trivial, ?_⟩
    try simp only [Act.put, List.setIfInBounds_toArray, List.set_cons_zero, List.set_cons_succ]
    have HX := Lib.hid ((H6.out.below ((Keeps.drew _ _).trans (Keeps.alloc _ _ (.cells (bytesV (List.replicate 300 0)).toArray 5)))).below hk7)
    have HKX := Lib.hid ((HV6.out.keeps ((Keeps.drew (fun _ => False) _).trans (Keeps.alloc (fun _ => False) _ (.cells (bytesV (List.replicate 300 0)).toArray 5))) (fun _ _ h => h)).keeps hk7 (fun _ _ h => h))
    have HZX := Lib.hid (slr_bytes ((Blk.new w6.drew (bytesV (List.replicate 300 0)) 5).keeps hk7 id))
    clear hk7
    refine wpAnyH_all (rs := [3]) (by kernel_rfl) (by simp) ?_
    intro i3 hi3
    obtain rfl : i3 = 3 := by simpa using hi3
    refine call_atG (some 23) rfl rfl rfl 12 #[.pointer (some ⟨r, 0, none⟩), .agg (keyR 2).toArray, .slice (some ⟨w6.drew.heap.size, 0, none⟩) 300 300] ?_ ?_
    · go_simp
    refine (put_big HX.out (by simp) (by simp) (by omega) (fun p hp => by
      obtain rfl : p = (e4, kx 2) := by simpa using hp
      show 66 ≤ 66
      omega) 2 _ (List.replicate 300 0) HZX.out (by simp) ⟨none, false, 66, [(e4, kx 2)], []⟩ rfl (by simp) (by simp) (by simp) (by simp)).mono ?_
    rintro e w9 ⟨rfl, ro9, e9, h9, hK9⟩
    have h9' : St w ro9 w9 r 200 66 [(e4, kx 2)] [(e9, oldI (putIt 2 (List.replicate 300 0) none))] := h9
    have H9 := Lib.hid h9'
    have hv9 := slo_apart hK9 (HKX.out) (fun g hg => (HF6.out g hg).2)
    have hcv9 := hv9.slr.str (b := [104, 105]) (by simp)
    change (convert 27 9 (.slice va 2 vc)).run Try.prog w9 = _ at hcv9
    rw [show strB [104, 105] = ⟨#[104, 105]⟩ from rfl] at hcv9
    have HCV := Lib.hid hcv9
    refine ⟨_, rfl, trivial, ?_⟩
    try simp only [Act.put, List.setIfInBounds_toArray, List.set_cons_zero, List.set_cons_succ]
    refine take_at 4 (some 5) (.bool false) rfl rfl (by kernel_rfl) (by kernel_rfl) (by kernel_rfl) (fun _ _ _ h => h) (.inl ⟨by rfl, fun w' hS => ?_⟩) trivial ?_
    · go_simp
    try simp only [Act.put, List.setIfInBounds_toArray, List.set_cons_zero, List.set_cons_succ]
    refine wpAnyH_done (by kernel_rfl) ?_ _
    clear h9 h9' hK9 hv9 hcv9 HX HZX HKX
    have hcv9 := HCV.out
    go_wp2_with fail
    refine (key_any w9 1 (by omega)).mono ?_
    rintro e w10 ⟨rfl, hk10⟩
    have H10 := Lib.hid (H9.out.below hk10)
    clear hk10 hcv9
    go_wp2_with fail
    refine (Hits_any H10.out.ram (by simp) (by simp) 1 2 rfl).mono ?_
    rintro e w11 ⟨rfl, hk11⟩
    have H11 := Lib.hid (H10.out.below hk11)
    clear hk11
    go_wp2_with fail
    refine (Used_any H11.out.ram).mono ?_
    rintro e w12 ⟨rfl, hk12⟩
    have H12 := Lib.hid (H11.out.below hk12)
    clear hk12
    go_wp2_with fail
    refine (Keys_any H12.out.ram (by simp)).mono ?_
    rintro e w13 ⟨ka, kc, rfl, -, hk13⟩
    have H13 := Lib.hid (H12.out.below hk13)
    clear hk13
    go_wp2_with fail
    refine (History_any H13.out.ram (by simp)).mono ?_
    rintro e w14 ⟨ha, hc, rfl, -, hk14⟩
    have H14 := Lib.hid (H13.out.below hk14)
    clear hk14
    go_wp2
    go_ret
    exact ⟨rfl, H14.out.kept⟩
end Go.Proofs.Ytpiijfknpliahaa
