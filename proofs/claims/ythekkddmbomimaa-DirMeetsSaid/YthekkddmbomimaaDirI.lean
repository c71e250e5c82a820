/- slices.Delete of one entry from an owned slice. Conditions: the slice owns its array; the place is in it. -/
import Derived.Test.YthekkddmbomimaaProbe
namespace Go.Proofs.Ythekkddmbomimaa
open Go.RowKit
set_option maxRecDepth 100000
attribute [local go_sem] Oper.semAt_some

theorem zero55_cells (n : Nat) (z : Value) (hz : z = Value.agg #[.int .u16 0, .int .u32 0, .int .u16 0, .int .u64 0]) : (Builtin.zeroCells z.cells n).size = n * 4 ∧ ∀ v ∈ (Builtin.zeroCells z.cells n).toList, v.oneCell' = true := by
  subst hz
  refine ⟨by rw [size_zeroCells]; rfl, fun v hv => ?_⟩
  have : v = .int .u16 0 ∨ v = .int .u32 0 ∨ v = .int .u64 0 := by
    simp only [Builtin.zeroCells, Array.toList_map, List.mem_map] at hv
    obtain ⟨q, _, rfl⟩ := hv
    have hq : q % 4 = 0 ∨ q % 4 = 1 ∨ q % 4 = 2 ∨ q % 4 = 3 := by omega
    simp only [Value.cells, List.size_toArray, List.length_cons, List.length_nil]
    rcases hq with h | h | h | h <;> simp [h]
  rcases this with rfl | rfl | rfl <;> rfl

set_option maxHeartbeats 1000000 in
theorem Delete_any (w : World) (v : Value) (xs : List En) (j : Nat) (hv : SlOwn w v 55 4 xs.length (cellsE xs)) (hj : j < xs.length) (hn : xs.length ≤ 65536) :
    Calls Try.prog 40 #[v, .int .i64 j, .int .i64 ((j : Int) + 1)] w fun r w' => ∃ v', r = .returned v' ∧ SlR w' v' 4 (xs.length - 1) (cellsE (xs.eraseIdx j)) ∧ Keeps (fun k => blkOf v = some k) w w' := by
  obtain ⟨hl, a, c, rfl, hnc, hm, h2⟩ := hv
  have hc0 : c ≠ 0 := by omega
  obtain ⟨g, cur, rfl, hg, hc, htk⟩ := h2.resolve_left hc0
  have hbk : blkOf (.slice (some ⟨g, 0, none⟩) xs.length c) = some g := by
    cases c with
    | zero => exact absurd rfl hc0
    | succ c => rfl
  rw [hbk]
  obtain ⟨i0, hi0, hz0, hs0, hb0⟩ := info_parts info55
  have hg1 : Blk w.drew g cur 55 := hg
  -- the rest of the slice, as it reads
  have hrest : ∀ b cc, (b = (some ⟨g, (j + 1) * 4, none⟩ : Option Addr)) ∨ xs.length = j + 1 → SlR w.drew (.slice b (xs.length - (j + 1)) cc) 4 (xs.length - (j + 1)) (cellsE (xs.drop (j + 1))) := by
    rintro b cc (rfl | hx)
    · have := hg1.slr ((j + 1) * 4) 4 (xs.length - (j + 1)) cc (by omega)
      rw [show (xs.length - (j + 1)) * 4 = xs.length * 4 - (j + 1) * 4 from by omega, ← List.drop_take, htk, cellsE_drop] at this
      exact this
    · have e : xs.length - (j + 1) = 0 := by omega
      rw [e, List.drop_of_length_le (by omega)]
      exact ⟨by simp [cellsE], b, cc, rfl, .inl rfl⟩
  have hA : ∀ b cc, (b = (some ⟨g, (j + 1) * 4, none⟩ : Option Addr)) ∨ xs.length = j + 1 →
      (Builtin.append_ #[45, 45] 45 #[.slice (some ⟨g, 0, none⟩) j c, .slice b (xs.length - (j + 1)) cc]).run Try.prog w.drew = .ok (.slice (some ⟨g, 0, none⟩) (j + (xs.length - (j + 1))) c) (w.drew.setRow g (splice cur (0 + j * 4) (cellsE (xs.drop (j + 1)))).toArray) := fun b cc hb =>
    run_appendRoomK (P := Try.prog) 45 45 45 55 i0 Try.underlying45 hi0 4 hs0 Try.underlying45 hg1 0 j c (hrest b cc hb) (by omega) (by omega) (cellsE_one_cell _)
  generalize hcur : splice cur (0 + j * 4) (cellsE (xs.drop (j + 1))) = cur2 at hA
  have hlen2 : c * 4 ≤ cur2.length := by
    rw [← hcur, length_splice _ _ _ (by rw [cellsE_length, List.length_drop]; omega)]; exact hc
  have hg2 : Blk (w.drew.setRow g cur2.toArray) g cur2 55 := hg1.setRow cur2
  have hk2 : Keeps (fun k => some g = some k) w (w.drew.setRow g cur2.toArray) := (Keeps.drew _ _).trans (Keeps.setRow _ _ _ rfl)
  have htake : cur2.take ((xs.length - 1) * 4) = cellsE (xs.eraseIdx j) := by
    have e1 : cur.take (0 + j * 4) = cellsE (xs.take j) := by
      rw [← cellsE_take, ← htk, List.take_take]; congr 1; omega
    have e2 : (cellsE (xs.take j) ++ cellsE (xs.drop (j + 1))).length = (xs.length - 1) * 4 := by
      rw [List.length_append, cellsE_length, cellsE_length, List.length_take, List.length_drop]; omega
    rw [← hcur, splice, e1, ← List.append_assoc, ← e2, List.take_left, List.eraseIdx_eq_take_drop_succ, cellsE_append]
  obtain ⟨hz1, hz2⟩ := zero55_cells (xs.length - (xs.length - 1)) _ rfl
  obtain ⟨ds, hrun, hds⟩ := run_clearK (P := Try.prog) 45 0 55 i0 _ Try.underlying45 hi0 hz0 hg2 ((xs.length - 1) * 4) (xs.length - (xs.length - 1)) (c - (xs.length - 1)) (by rw [hz1]; omega) hz2
  have hb3 : Blk ((w.drew.setRow g cur2.toArray).setRow g ds.toArray) g ds 55 := hg2.setRow ds
  have hk3 : Keeps (fun k => some g = some k) w ((w.drew.setRow g cur2.toArray).setRow g ds.toArray) := hk2.trans (Keeps.setRow _ _ _ rfl)
  have hfin : SlR ((w.drew.setRow g cur2.toArray).setRow g ds.toArray) (.slice (some ⟨g, 0, none⟩) (xs.length - 1) c) 4 (xs.length - 1) (cellsE (xs.eraseIdx j)) := by
    have hdl : (xs.length - 1) * 4 ≤ ds.length := by
      have := congrArg List.length hds
      rw [List.length_take, List.length_take] at this; omega
    have := hb3.slr 0 4 (xs.length - 1) c (by omega)
    rw [List.drop_zero, hds, htake] at this
    exact this
  have en : j + (xs.length - (j + 1)) = xs.length - 1 := by omega
  rw [en] at hA
  have HA := Lib.hid hA
  have HR := Lib.hid hrun
  have HF := Lib.hid hfin
  have HK3 := Lib.hid hk3
  have a1 : ((j : Int) == (j : Int) + 1) = false := beq_eq_false_iff_ne.2 (by omega)
  have a2 : (j : Int) ≤ xs.length := by omega
  have a3 : (0 : Int) ≤ j := by omega
  have a4 : ¬ c = xs.length - 1 := by omega
  have a5 : (j : Int) + 1 ≤ xs.length := by omega
  have a6 : (j : Int) ≤ c := by omega
  have a7 : (xs.length : Int) ≤ c := by omega
  have a8 : (j : Int) ≤ (j : Int) + 1 := by omega
  have a9 : (0 : Int) ≤ (j : Int) + 1 := by omega
  have hjc : j < c := by omega
  clear hfin hrun hk3 hb3 hds hz1 hz2 hg2 hk2 htake hlen2 hA hcur hrest hl h2 hbk hg hg1 hc htk
  generalize hw3 : (w.drew.setRow g cur2.toArray).setRow g ds.toArray = w3 at *
  clear hw3
  generalize w.drew.setRow g cur2.toArray = w2 at *
  have hA1 := HA.out (if c = j + 1 then some ⟨g, 0, none⟩ else some ⟨g, (j + 1) * 4, none⟩) (c - (j + 1)) (by
    by_cases h : c = j + 1
    · right; omega
    · left; rw [if_neg h])
  have HA1 := Lib.hid hA1
  clear hA1
  go_enter Try.func40, Try.ntmps40
  go_wp2
  go_region_held3 (fun _ => True) (first | exact trivial | assumption)
    (first
      | (refine step_runAppend (by rfl) (.tmp 22) (.tmp 25) 45 45 (by rfl) (.slice (some ⟨g, 0, none⟩) (xs.length - 1) c) w2 (by exact HA1.out) ?_))
  have a10 : ((xs.length - 1 : Nat) : Int) ≤ xs.length := by omega
  have a11 : (0 : Int) ≤ ((xs.length - 1 : Nat) : Int) := by omega
  go_wp2_with (first | (refine wpList_runClear rfl (.tmp 31) 45 rfl (.tuple #[]) w3 (by exact HR.out) ?_))
  all_goals
    go_ret
    first
      | exact ⟨_, rfl, HF.out, HK3.out.mono (fun k h => by simpa using h)⟩
      | (have hcj : c = j + 1 := by assumption
         subst hcj
         exact ⟨_, rfl, HF.out, HK3.out.mono (fun k h => by simpa using h)⟩)
end Go.Proofs.Ythekkddmbomimaa
