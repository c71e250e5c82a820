/- An element struck out of a list whose block is its own, by append over its own rest. Conditions: named at each. -/
import Derived.Test.YthekkddmbomimaaRefProbe
namespace Go.Proofs.Ythekkddmbomimaa
open Go.RowKit
set_option maxRecDepth 100000

theorem cellsE_erase (l : List En) (r : Nat) : (cellsE l).take (r * 4) ++ ((cellsE l).drop ((r + 1) * 4)) = cellsE (l.eraseIdx r) := by
  rw [cellsE_take, cellsE_drop, ← cellsE_append, List.eraseIdx_eq_take_drop_succ]
theorem run_strike {P : Program} {w : World} (t e : TypeId) (i : TypeInfo) (z : Value) (ht : P.underlying t = some (.slice e)) (hi : P.info? e = some i) (hz : i.zero = some z)
    (hsize : i.size = 4) (hby : i.bytes = 24) (hzs : z.cells.size = 4) (a : Option Addr) (c : Nat) (l : List En) (hv : SlOwn w (.slice a l.length c) e 4 l.length (cellsE l)) (r : Nat) (hr : r < l.length) (hn : l.length ≤ 65536) :
    ∃ v' w', (Builtin.append_ #[t, t] t #[.slice a r r, .slice (if c = r + 1 then a else a.map (·.add ((r + 1) * 4))) (l.length - (r + 1)) (c - (r + 1))]).run P w = .ok v' w' ∧
      SlOwn w' v' e 4 (l.eraseIdx r).length (cellsE (l.eraseIdx r)) ∧ Keeps (fun _ => False) w w' ∧ ∀ g, blkOf v' = some g → blkOf (.slice a l.length c) = some g ∨ w.heap.size ≤ g := by
  have hvR := hv.slr
  obtain ⟨hl, a', c', he, hnc, hm, h2⟩ := hv
  obtain ⟨rfl, rfl⟩ : a = a' ∧ c = c' := by cases he; exact ⟨rfl, rfl⟩
  have hel : (l.eraseIdx r).length = l.length - 1 := List.length_eraseIdx_of_lt hr
  rcases h2 with rfl | ⟨g, cur, rfl, hg, hc, htk⟩
  · omega
  have hcl : (cellsE l).length = l.length * 4 := cellsE_length l
  have hcur : l.length * 4 ≤ cur.length := Nat.le_trans (Nat.mul_le_mul_right 4 hnc) hc
  have hat : ∀ j u, (cellsE l)[j]? = some u → cur[j]? = some u := fun j u hu => by
    rw [← htk, List.getElem?_take] at hu; split at hu
    · exact hu
    · simp at hu
  -- the head
  have hh : SlR w (.slice (some ⟨g, 0, none⟩) r r) 4 r ((cellsE l).take (r * 4)) := by
    refine ⟨by rw [List.length_take, hcl]; omega, _, r, rfl, .inr ⟨g, 0, rfl, hg.lt, fun j u hu => ?_⟩⟩
    rw [Nat.zero_add]
    rw [List.getElem?_take] at hu; split at hu
    · exact hg.cell (hat j u hu)
    · simp at hu
  have hx : SlR w (.slice (if c = r + 1 then some ⟨g, 0, none⟩ else (some ⟨g, 0, none⟩ : Option Addr).map (·.add ((r + 1) * 4))) (l.length - (r + 1)) (c - (r + 1))) 4 (l.length - (r + 1)) ((cellsE l).drop ((r + 1) * 4)) := by
    refine ⟨by rw [List.length_drop, hcl]; omega, _, _, rfl, ?_⟩
    by_cases h0 : l.length - (r + 1) = 0
    · exact .inl h0
    · refine .inr ⟨g, (r + 1) * 4, ?_, hg.lt, fun j u hu => ?_⟩
      · rw [if_neg (by omega)]; simp [add_none]
      · rw [List.getElem?_drop] at hu; exact hg.cell (hat _ u hu)
  have htot := cellsE_erase l r
  generalize hX : (if c = r + 1 then some ⟨g, 0, none⟩ else (some ⟨g, 0, none⟩ : Option Addr).map (·.add ((r + 1) * 4))) = xa at *
  by_cases h0 : l.length - (r + 1) = 0
  · have hdz : (cellsE l).drop ((r + 1) * 4) = [] := List.drop_of_length_le (by rw [hcl]; omega)
    rw [hdz] at hx htot
    rw [List.append_nil] at htot
    rw [h0] at hx ⊢
    have hrun := run_appendRoomK (P := P) (w := w) t t t e i ht hi 4 hsize ht hg 0 r r hx (by omega) (by omega) (by simp)
    have hs : splice cur (0 + r * 4) [] = cur := by simp [splice]
    rw [hs, setRow_self w g cur.toArray e (0, 0) hg] at hrun
    refine ⟨_, _, hrun, ?_, Keeps.refl _ _, fun b hb => ?_⟩
    · have hlr : r + 0 = (l.eraseIdx r).length := by omega
      rw [← htot, hlr]
      refine ⟨by rw [List.length_take, hcl]; omega, _, r, rfl, by omega, by omega, .inr ⟨g, cur, rfl, hg, by omega, ?_⟩⟩
      rw [← htk, List.take_take]; congr 1; omega
    · cases r with
      | zero => simp [blkOf] at hb
      | succ r =>
        cases c with
        | zero => omega
        | succ c => left; simpa [blkOf] using hb
  · have hgr := run_appendGrowK (P := P) (w := w) t t t e i z ht ht hi hz (some ⟨g, 0, none⟩) r r _ (by rw [hsize]; exact hh) (.slice xa (l.length - (r + 1)) (c - (r + 1))) (l.length - (r + 1)) _ (by rw [hsize]; exact hx) (by omega) (by omega) (growslice_fits (by omega) (by rw [hby]; omega))
    have hge := grownCap_ge w (r + (l.length - (r + 1))) r e
    have hcm : grownCap w (r + (l.length - (r + 1))) r e ≤ maxLen := grownCap_le_maxLen w _ r e (by unfold maxLen; omega)
    generalize grownCap w (r + (l.length - (r + 1))) r e = G at *
    refine ⟨_, _, hgr, ?_, (Keeps.drew _ _).trans (Keeps.alloc _ _ _), fun b hb => ?_⟩
    · have hlr : r + (l.length - (r + 1)) = (l.eraseIdx r).length := by omega
      rw [← htot, hlr]
      refine ⟨by rw [htot, cellsE_length], _, G, rfl, by omega, hcm, .inr ⟨w.heap.size, (((cellsE l).take (r * 4)).toArray ++ ((cellsE l).drop ((r + 1) * 4)).toArray ++ Builtin.zeroCells z.cells (G - (l.eraseIdx r).length)).toList, rfl, ?_, ?_, ?_⟩⟩
      · have := heap_alloc_new w.drew (.cells (((cellsE l).take (r * 4)).toArray ++ ((cellsE l).drop ((r + 1) * 4)).toArray ++ Builtin.zeroCells z.cells (G - (l.eraseIdx r).length)) e)
        unfold Blk; rw [Array.toArray_toList]; exact this
      · rw [Array.length_toList]
        simp only [Array.size_append, List.size_toArray, size_zeroCells, hzs]
        rw [List.length_take, List.length_drop, hcl]
        have : (G - (l.eraseIdx r).length) * 4 + (l.eraseIdx r).length * 4 = G * 4 := by rw [← Nat.add_mul]; congr 1; omega
        omega
      · simp only [Array.toList_append, htot]
        have := cellsE_length (l.eraseIdx r)
        rw [← this]; exact List.take_left
    · right
      cases G with
      | zero => omega
      | succ G => have : w.heap.size = b := by simpa [blkOf] using hb
                  omega
end Go.Proofs.Ythekkddmbomimaa
