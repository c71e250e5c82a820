/- slices.Delete of entries i to j from a slice that owns its array; slices.Clone of bytes. Conditions: the places are in it. -/
import Derived.Test.YtpiijfknpliahaaRamC
namespace Go.Proofs.Ytpiijfknpliahaa
open Go.RowKit
set_option maxRecDepth 100000
attribute [local go_sem] Oper.semAt_some

theorem cellsP_append (A B : Ents) : cellsP (A ++ B) = cellsP A ++ cellsP B := by simp [cellsP]
theorem cellsP_take (A : Ents) (k : Nat) : (cellsP A).take k = cellsP (A.take k) := by simp [cellsP, List.map_take]
theorem cellsP_drop (A : Ents) (k : Nat) : (cellsP A).drop k = cellsP (A.drop k) := by simp [cellsP, List.map_drop]
theorem zero57_cells (n : Nat) : (Builtin.zeroCells (Value.pointer none).cells n).size = n ∧ ∀ v ∈ (Builtin.zeroCells (Value.pointer none).cells n).toList, v.oneCell' = true := by
  refine ⟨by rw [size_zeroCells]; simp [Value.cells], fun v hv => ?_⟩
  simp only [Builtin.zeroCells, Array.toList_map, List.mem_map] at hv
  obtain ⟨q, _, rfl⟩ := hv
  have hq : q % 1 = 0 := Nat.mod_one q
  simp [Value.cells, hq, Value.oneCell']

theorem Delete_none (w : World) (v : Value) (E : Ents) (i : Nat) (hv : SlO w v 57 1 E.length (cellsP E)) (hi : i ≤ E.length) :
    Calls Try.prog 46 #[v, .int .i64 i, .int .i64 i] w fun r w' => r = .returned v ∧ Keeps (fun _ => False) w w' := by
  obtain ⟨hl, a, c, rfl, hnc, hm, h2⟩ := hv
  have a1 : (0 : Int) ≤ i := by omega
  have a2 : (i : Int) ≤ E.length := by omega
  have a3 : (E.length : Int) ≤ c := by omega
  have a4 : (i : Int) ≤ (i : Int) := by omega
  have a5 : ((i : Int) == (i : Int)) = true := beq_self_eq_true _
  clear hl h2
  go_enter Try.func46, Try.ntmps46
  go_wp2
  all_goals
    go_ret
    exact ⟨rfl, Keeps.refl _ _⟩
set_option maxHeartbeats 1000000 in
theorem Delete_some (w : World) (v : Value) (E : Ents) (i j : Nat) (hv : SlO w v 57 1 E.length (cellsP E)) (hij : i < j) (hj : j ≤ E.length) (hn : E.length ≤ 1073741824) :
    Calls Try.prog 46 #[v, .int .i64 i, .int .i64 j] w fun r w' => ∃ v', r = .returned v' ∧ SlO w' v' 57 1 (E.take i ++ E.drop j).length (cellsP (E.take i ++ E.drop j)) ∧ Keeps (fun k => blkOf v = some k) w w' ∧ blkOf v' = blkOf v := by
  obtain ⟨hl, a, c, rfl, hnc, hm, h2⟩ := hv
  have hc0 : c ≠ 0 := by omega
  obtain ⟨g, off, cur, rfl, hg, hc, htk⟩ := h2.resolve_left hc0
  have hbk : ∀ n, blkOf (.slice (some ⟨g, off, none⟩) n c) = some g := fun n => by
    cases c with
    | zero => exact absurd rfl hc0
    | succ c => rfl
  rw [hbk]
  have hcl := cellsP_length E
  have hat : ∀ k u, (cellsP E)[k]? = some u → cur[off + k]? = some u := fun k u hu => by
    rw [← htk, List.getElem?_take] at hu; split at hu
    · rw [List.getElem?_drop] at hu; exact hu
    · simp at hu
  obtain ⟨i0, hi0, hz0, hs0, hb0⟩ := info_parts info57
  have hg1 : Blk w.drew g cur 57 := hg
  -- the rest of the slice, as it reads
  obtain ⟨xa, hxa⟩ : ∃ xa, (if c = j then some ⟨g, off, none⟩ else (some ⟨g, off, none⟩ : Option Addr).map (·.add (j * 1))) = xa := ⟨_, rfl⟩
  have hrest : SlR w.drew (.slice xa (E.length - j) (c - j)) 1 (E.length - j) (cellsP (E.drop j)) := by
    refine ⟨by rw [cellsP_length, List.length_drop]; omega, _, _, rfl, ?_⟩
    by_cases h0 : E.length - j = 0
    · exact .inl h0
    · refine .inr ⟨g, off + j, ?_, hg1.lt, fun k u hu => ?_⟩
      · rw [← hxa, if_neg (by omega)]; simp [add_none]
      · rw [← cellsP_drop, List.getElem?_drop] at hu
        have := hg1.cell (hat _ u hu)
        rw [← Nat.add_assoc] at this; exact this
  have hA := run_appendRoomK (P := Try.prog) 54 54 54 57 i0 Try.underlying54 hi0 1 hs0 Try.underlying54 hg1 off i c hrest (by omega) (by omega) (cellsP_one _)
  obtain ⟨n', hn'⟩ : ∃ n', i + (E.length - j) = n' := ⟨_, rfl⟩
  have hdl : (E.take i ++ E.drop j).length = n' := by rw [List.length_append, List.length_take, List.length_drop]; omega
  rw [hn'] at hA
  have htk2 := drop_splice cur (cellsP (E.drop j)) off (i * 1) (by rw [cellsP_length, List.length_drop]; omega)
  have hcut : (cur.drop off).take (i * 1) = cellsP (E.take i) := by
    rw [← cellsP_take, ← htk, List.take_take]; congr 1; omega
  rw [hcut, ← cellsP_append, cellsP_length, List.length_drop, Nat.mul_one, hn'] at htk2
  generalize hcur : splice cur (off + i * 1) (cellsP (E.drop j)) = cur2 at hA
  rw [show splice cur (off + i) (cellsP (E.drop j)) = cur2 by rw [← hcur, Nat.mul_one]] at htk2
  have hlen2 : off + c * 1 ≤ cur2.length := by
    rw [← hcur, length_splice _ _ _ (by rw [cellsP_length, List.length_drop]; omega)]; exact hc
  have hg2 : Blk (w.drew.setRow g cur2.toArray) g cur2 57 := hg1.setRow cur2
  have hk2 : Keeps (fun k => some g = some k) w (w.drew.setRow g cur2.toArray) := (Keeps.drew _ _).trans (Keeps.setRow _ _ _ rfl)
  obtain ⟨hz1, hz2⟩ := zero57_cells (E.length - n')
  obtain ⟨ds, hrun, hds, hdsl⟩ := run_clearK (P := Try.prog) 54 0 57 i0 _ Try.underlying54 hi0 hz0 hg2 (off + n') (E.length - n') (c - n') (by rw [hz1]; omega) hz2
  have hb3 : Blk ((w.drew.setRow g cur2.toArray).setRow g ds.toArray) g ds 57 := hg2.setRow ds
  have hk3 : Keeps (fun k => some g = some k) w ((w.drew.setRow g cur2.toArray).setRow g ds.toArray) := hk2.trans (Keeps.setRow _ _ _ rfl)
  have hfin : SlO ((w.drew.setRow g cur2.toArray).setRow g ds.toArray) (.slice (some ⟨g, off, none⟩) n' c) 57 1 n' (cellsP (E.take i ++ E.drop j)) := by
    refine ⟨by rw [cellsP_length, hdl, Nat.mul_one], _, c, rfl, by omega, hm, .inr ⟨g, off, ds, rfl, hb3, ?_, ?_⟩⟩
    · rw [hdsl]; exact hlen2
    · have e1 : (ds.drop off).take n' = (cur2.drop off).take n' := by
        have h1 := congrArg (List.drop off) hds
        rw [List.drop_take, List.drop_take, show off + n' - off = n' by omega] at h1
        exact h1
      rw [Nat.mul_one, e1]; exact htk2
  have HR := Lib.hid hrun
  have HF := Lib.hid hfin
  have HK3 := Lib.hid hk3
  have HXA := Lib.hid hxa
  have HBK := Lib.hid hbk
  rw [hdl]
  have a1 : ((i : Int) == (j : Int)) = false := beq_eq_false_iff_ne.2 (by omega)
  have a2 : (i : Int) ≤ j := by omega
  have a3 : (0 : Int) ≤ i := by omega
  have a4 : ¬ c = n' := by omega
  have a5 : (j : Int) ≤ E.length := by omega
  have a6 : (i : Int) ≤ c := by omega
  have a7 : (E.length : Int) ≤ c := by omega
  have a8 : (0 : Int) ≤ j := by omega
  have a9 : ¬ E.length = i := by omega
  have a10 : (n' : Int) ≤ E.length := by omega
  have a11 : (0 : Int) ≤ n' := by omega
  have hjc : i < c := by omega
  clear hfin hrun hk3 hb3 hds hz1 hz2 hg2 hk2 htk2 hlen2 hcur hrest hl h2 hbk hg hg1 hc htk hxa hcut hat hdl hdsl
  generalize hw3 : (w.drew.setRow g cur2.toArray).setRow g ds.toArray = w3 at *
  clear hw3
  generalize w.drew.setRow g cur2.toArray = w2 at *
  by_cases hcj : c = j
  · subst hcj
    have hEc : E.length - c = 0 := by omega
    rw [← HXA.out, if_pos rfl, hEc, Nat.sub_self] at hA
    clear hEc
    have HA := Lib.hid hA
    clear hA HXA
    go_enter Try.func46, Try.ntmps46
    go_wp2
    go_region_held3 (fun _ => True) (first | exact trivial | assumption)
      (first
        | (refine step_runAppend (by rfl) (.tmp 22) (.tmp 25) 54 54 (by rfl) (.slice (some ⟨g, off, none⟩) n' c) w2 (by exact HA.out) ?_))
    go_wp2_with (first | (refine wpList_runClear rfl (.tmp 31) 54 rfl (.tuple #[]) w3 (by exact HR.out) ?_))
    go_ret
    exact ⟨_, rfl, HF.out, HK3.out, HBK.out _⟩
  · rw [← HXA.out, if_neg hcj, Option.map_some, add_none, Nat.mul_one] at hA
    have HA := Lib.hid hA
    clear hA HXA
    go_enter Try.func46, Try.ntmps46
    go_wp2
    go_region_held3 (fun _ => True) (first | exact trivial | assumption)
      (first
        | (refine step_runAppend (by rfl) (.tmp 22) (.tmp 25) 54 54 (by rfl) (.slice (some ⟨g, off, none⟩) n' c) w2 (by exact HA.out) ?_))
    go_wp2_with (first | (refine wpList_runClear rfl (.tmp 31) 54 rfl (.tuple #[]) w3 (by exact HR.out) ?_))
    go_ret
    exact ⟨_, rfl, HF.out, HK3.out, HBK.out _⟩

theorem info5 : (Try.prog.info? 5).map (fun i => (i.zero, i.size, i.bytes)) = some (some (.int .u8 0), 1, 1) := by kernel_rfl
theorem bytesV_one (b : List Nat) : ∀ v ∈ bytesV b, v.oneCell' = true := by
  intro v hv
  obtain ⟨x, _, rfl⟩ := List.mem_map.1 hv
  rfl
set_option maxHeartbeats 400000 in
theorem Clone_any (w : World) (v : Value) (b : List Nat) (hv : SlR w v 1 b.length (bytesV b)) (hn : b.length ≤ 65536) :
    Calls Try.prog 30 #[v] w fun e w' => ∃ v', e = .returned v' ∧ SlO w' v' 5 1 b.length (bytesV b) ∧ Keeps (fun _ => False) w w' ∧ (∀ k, blkOf v' = some k → w.heap.size ≤ k) := by
  have q22 : ∀ (w : World) (a : Option Addr) (n c n' c' : Nat), (binOp .eql 27 (.slice a n c) (.slice none n' c')).run Try.prog w = .ok (.bool a.isNone) w := fun w a n c n' c' => Lib.run_eql_slice_nil w _ _ a n c n' c' Try.underlying27
  obtain ⟨i0, hi0, hz0, hs0, hb0⟩ := info_parts info5
  have hv0 := hv
  obtain ⟨hl, a, c, rfl, h0⟩ := hv
  cases a with
  | none =>
    have hb : b = [] := by
      rcases h0 with h0 | ⟨_, _, h1, _⟩
      · exact List.eq_nil_of_length_eq_zero h0
      · cases h1
    subst hb
    clear hl h0 hv0
    go_enter Try.func30, Try.ntmps30
    go_wp2
    go_ret
    exact ⟨_, rfl, SlO.nil _ _ _, Keeps.refl _ _, fun k hk => by simp [blkOf] at hk⟩
  | some a =>
    have ho : SlO (w.alloc (.cells #[] 5)) (.slice (some ⟨w.heap.size, 0, none⟩) 0 0) 5 1 0 [] := ⟨by simp, _, 0, rfl, Nat.le_refl _, Nat.zero_le _, .inl rfl⟩
    have hv2 : SlR (w.alloc (.cells #[] 5)) (.slice (some a) b.length c) 1 b.length (bytesV b) := hv0.below (Below.alloc1 _ _)
    obtain ⟨v', w2, hrun, hown, hk, hb⟩ := run_appendO (P := Try.prog) 27 27 27 5 i0 _ 1 1 Try.underlying27 Try.underlying27 hi0 hz0 hs0 hb0 rfl ho hv2 (bytesV_one b) (by unfold maxLen; omega) (by omega)
    rw [Nat.zero_add, List.nil_append] at hown
    have hkp : Keeps (fun _ => False) w w2 := (Keeps.alloc _ _ _).trans (hk.mono (fun k h => by simp [blkOf] at h))
    have hfr : ∀ k, blkOf v' = some k → w.heap.size ≤ k := by
      intro k hk2
      rcases hb with hb | ⟨hb, _⟩
      · rw [hb] at hk2; simp [blkOf] at hk2
      · rw [hb] at hk2; simp at hk2; omega
    have HR := Lib.hid hrun
    have HO := Lib.hid hown
    have HF := Lib.hid hfr
    clear hrun hown hfr hb hk ho hv0 hv2 hn h0
    go_enter Try.func30, Try.ntmps30
    go_wp2_with (first | (refine wpList_runAppend rfl (.tmp 5) (.tmp 6) 27 27 rfl v' w2 (by exact HR.out) ?_))
    go_ret
    exact ⟨v', rfl, HO.out, hkp, HF.out⟩
end Go.Proofs.Ytpiijfknpliahaa
