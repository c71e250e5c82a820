/- An entry is appended to the cached ones or to the history: what the memory is behind it. Conditions: named at each. -/
import Derived.Test.YtpiijfknpliahaaRamF
namespace Go.Proofs.Ytpiijfknpliahaa
open Go.RowKit

theorem push_core {w : World} {v : Value} {E : Ents} (hv : SlO w v 57 1 E.length (cellsP E)) (hn : E.length ≤ 1073741824) (b : Nat) :
    ∃ v' w6, (Builtin.append_ #[54, 54] 54 #[v, .slice (some ⟨w.heap.size, 0, none⟩) 1 1]).run Try.prog (w.alloc (.cells #[.pointer (some ⟨b, 0, none⟩)] 57)) = .ok v' w6 ∧
      SlO w6 v' 57 1 (E.length + 1) (cellsP E ++ [.pointer (some ⟨b, 0, none⟩)]) ∧ Keeps (fun k => blkOf v = some k) w w6 ∧ (blkOf v' = blkOf v ∨ ∃ g, blkOf v' = some g ∧ w.heap.size ≤ g ∧ g < w6.heap.size) := by
  obtain ⟨i0, hi0, hz0, hs0, hb0⟩ := info_parts info57
  have hk1 : Keeps (fun k => blkOf v = some k) w (w.alloc (.cells #[.pointer (some ⟨b, 0, none⟩)] 57)) := Keeps.alloc _ _ _
  have hlit : SlR (w.alloc (.cells #[.pointer (some ⟨b, 0, none⟩)] 57)) (.slice (some ⟨w.heap.size, 0, none⟩) 1 1) 1 1 [.pointer (some ⟨b, 0, none⟩)] :=
    (Blk.new w [.pointer (some ⟨b, 0, none⟩)] 57).slr 0 1 1 1 (by simp)
  obtain ⟨v', w6, hrun, hown, hk6, hbk⟩ := run_appendO (P := Try.prog) 54 54 54 57 i0 _ 1 8 Try.underlying54 Try.underlying54 hi0 hz0 hs0 hb0 rfl (hv.below (Below.alloc1 _ (.cells #[.pointer (some ⟨b, 0, none⟩)] 57))) hlit (fun v hv => by
    obtain rfl : v = .pointer (some ⟨b, 0, none⟩) := by simpa using hv
    rfl) (by unfold maxLen; omega) (by omega)
  refine ⟨v', w6, hrun, hown, hk1.trans hk6, ?_⟩
  rcases hbk with h | ⟨h, h2⟩
  · exact .inl h
  · exact .inr ⟨_, h, by simp, h2⟩

/-- A role for a slice's block. -/
def roBlk (ro : Nat → Nat) (v : Value) (n : Nat) : Nat → Nat := fun b => if blkOf v = some b then n else ro b
theorem roBlk_old {ro : Nat → Nat} {w w6 : World} {v v' : Value} {n : Nat} (hold : ∀ g, blkOf v = some g → ro g = n) (h : blkOf v' = blkOf v ∨ ∃ g, blkOf v' = some g ∧ w.heap.size ≤ g ∧ g < w6.heap.size) (b : Nat) (hb : b < w.heap.size) : roBlk ro v' n b = ro b := by
  unfold roBlk
  split
  · rename_i e
    rcases h with h | ⟨g, hg, h1, _⟩
    · rw [h] at e; exact (hold b e).symm
    · rw [hg] at e; obtain rfl := Option.some.inj e; omega
  · rfl
theorem roBlk_lt {ro : Nat → Nat} {w w6 : World} {v v' : Value} {n : Nat} (hlt : ∀ b, ro b ≠ 0 → b < w.heap.size) (hv : ∀ g, blkOf v = some g → g < w.heap.size) (hs : w.heap.size ≤ w6.heap.size) (h : blkOf v' = blkOf v ∨ ∃ g, blkOf v' = some g ∧ w.heap.size ≤ g ∧ g < w6.heap.size) (b : Nat) (hb : roBlk ro v' n b ≠ 0) : b < w6.heap.size := by
  unfold roBlk at hb
  split at hb
  · rename_i e
    rcases h with h | ⟨g, hg, _, h2⟩
    · rw [h] at e; have := hv b e; omega
    · rw [hg] at e; obtain rfl := Option.some.inj e; exact h2
  · have := hlt b hb; omega
theorem roBlk_grow {ro : Nat → Nat} {w w6 : World} {v v' : Value} {n : Nat} (hold : ∀ g, blkOf v = some g → ro g = n) (hn : n ≠ 0) (h : blkOf v' = blkOf v ∨ ∃ g, blkOf v' = some g ∧ w.heap.size ≤ g ∧ g < w6.heap.size) : Grow ro (roBlk ro v' n) w := by
  refine ⟨fun b hb => roBlk_old hold h b hb, fun b hb => ?_⟩
  unfold roBlk at hb
  split at hb
  · rename_i e
    rcases h with h | ⟨g, hg, h1, _⟩
    · rw [h] at e; left; rw [hold b e]; exact hn
    · rw [hg] at e; obtain rfl := Option.some.inj e; exact .inr h1
  · exact .inl hb

variable {ro : Nat → Nat} {w : World} {r lim used : Nat} {L P X : Ents}
theorem perm_pushL (L P X : Ents) (p : Nat × It) : ((L ++ [p]) ++ P ++ X).Perm (L ++ P ++ p :: X) := by
  have h1 : ((L ++ [p]) ++ P ++ X) = L ++ (p :: (P ++ X)) := by simp
  have h2 : (L ++ P ++ p :: X) = L ++ (P ++ p :: X) := by simp
  rw [h1, h2]
  exact List.Perm.append_left _ (List.perm_middle).symm
theorem perm_pushP (L P X : Ents) (p : Nat × It) : (L ++ (P ++ [p]) ++ X).Perm (L ++ P ++ p :: X) := by
  have h1 : (L ++ (P ++ [p]) ++ X) = L ++ P ++ ([p] ++ X) := by simp
  rw [h1]; exact List.Perm.refl _
/-- Behind an append to the cached ones, and the store of the header. -/
theorem RamAt.pushL {vl vp : Value} {p : Nat × It} (h : RamAt ro w r lim used L P (p :: X)) (hd : RamHead ro w r lim used L P vl vp) {v' : Value} {w6 : World}
    (hown : SlO w6 v' 57 1 (L.length + 1) (cellsP L ++ [.pointer (some ⟨p.1, 0, none⟩)])) (hk : Keeps (fun k => blkOf vl = some k) w w6) (hbk : blkOf v' = blkOf vl ∨ ∃ g, blkOf v' = some g ∧ w.heap.size ≤ g ∧ g < w6.heap.size) :
    ∃ ro', RamAt ro' (w6.setCell ⟨r, 2, none⟩ v') r lim used (L ++ [p]) P X ∧ Keeps (fun b => ro b ≠ 0) w (w6.setCell ⟨r, 2, none⟩ v') ∧ Grow ro ro' w := by
  have hk2 : Keeps (fun b => b = r) w6 (w6.setCell ⟨r, 2, none⟩ v') := Keeps.setCell _ _ _ (fun _ => rfl)
  have hgr := roBlk_grow (n := 2) hd.rl (by omega) hbk
  have hkk : Keeps (fun b => b = r ∨ blkOf vl = some b) w (w6.setCell ⟨r, 2, none⟩ v') := (hk.mono (fun _ e => .inr e)).trans (hk2.mono (fun _ e => .inl e))
  have hS : ∀ b, (b = r ∨ blkOf vl = some b) → ro b = 1 ∨ ro b = 2 := fun b e => by
    rcases e with rfl | e
    · exact .inl h.rr
    · exact .inr (hd.rl b e)
  have hr6 : Blk w6 r [.int .i64 lim, .int .i64 used, vl, vp] 56 := hd.blk.keeps hk (fun e => by have := hd.rl _ e; have := h.rr; omega)
  have hv'r : ∀ g, blkOf v' = some g → g ≠ r := fun g hg e => by
    rcases hbk with h1 | ⟨g', h1, h2, _⟩
    · rw [h1] at hg; have := hd.rl g hg; have := h.rr; subst e; omega
    · rw [h1] at hg; obtain rfl := Option.some.inj hg; have := h.lt_r; omega
  refine ⟨roBlk ro v' 2, h.move hkk (fun b _ e => by have := hS b e; omega) hgr.1 (fun b hb => ?_) ⟨v', vp, ?_, ?_, ?_, fun g hg => ?_, fun g hg => ?_⟩ (perm_pushL L P X p), hkk.mono (fun b e => by have := hS b e; omega), hgr⟩
  · exact Nat.lt_of_lt_of_le (roBlk_lt h.lt (fun g hg => hd.sl.lt hg) hk.size hbk b hb) hk2.size
  · exact hr6.setCell 2 v'
  · rw [show cellsP (L ++ [p]) = cellsP L ++ [.pointer (some ⟨p.1, 0, none⟩)] by simp [cellsP], List.length_append]
    exact hown.keeps hk2 (fun b hb => hv'r b hb)
  · exact (hd.sp.keeps hk (fun b hb e => by have := hd.rl b e; have := hd.rp b hb; omega)).keeps hk2 (fun b hb e => by have := hd.rp b hb; have := h.rr; subst e; omega)
  · unfold roBlk; rw [if_pos hg]
  · rw [roBlk_old hd.rl hbk g (hd.sp.lt hg)]; exact hd.rp g hg
theorem RamAt.pushP {vl vp : Value} {p : Nat × It} (h : RamAt ro w r lim used L P (p :: X)) (hd : RamHead ro w r lim used L P vl vp) {v' : Value} {w6 : World}
    (hown : SlO w6 v' 57 1 (P.length + 1) (cellsP P ++ [.pointer (some ⟨p.1, 0, none⟩)])) (hk : Keeps (fun k => blkOf vp = some k) w w6) (hbk : blkOf v' = blkOf vp ∨ ∃ g, blkOf v' = some g ∧ w.heap.size ≤ g ∧ g < w6.heap.size) :
    ∃ ro', RamAt ro' (w6.setCell ⟨r, 3, none⟩ v') r lim used L (P ++ [p]) X ∧ Keeps (fun b => ro b ≠ 0) w (w6.setCell ⟨r, 3, none⟩ v') ∧ Grow ro ro' w := by
  have hk2 : Keeps (fun b => b = r) w6 (w6.setCell ⟨r, 3, none⟩ v') := Keeps.setCell _ _ _ (fun _ => rfl)
  have hgr := roBlk_grow (n := 3) hd.rp (by omega) hbk
  have hkk : Keeps (fun b => b = r ∨ blkOf vp = some b) w (w6.setCell ⟨r, 3, none⟩ v') := (hk.mono (fun _ e => .inr e)).trans (hk2.mono (fun _ e => .inl e))
  have hS : ∀ b, (b = r ∨ blkOf vp = some b) → ro b = 1 ∨ ro b = 3 := fun b e => by
    rcases e with rfl | e
    · exact .inl h.rr
    · exact .inr (hd.rp b e)
  have hr6 : Blk w6 r [.int .i64 lim, .int .i64 used, vl, vp] 56 := hd.blk.keeps hk (fun e => by have := hd.rp _ e; have := h.rr; omega)
  have hv'r : ∀ g, blkOf v' = some g → g ≠ r := fun g hg e => by
    rcases hbk with h1 | ⟨g', h1, h2, _⟩
    · rw [h1] at hg; have := hd.rp g hg; have := h.rr; subst e; omega
    · rw [h1] at hg; obtain rfl := Option.some.inj hg; have := h.lt_r; omega
  refine ⟨roBlk ro v' 3, h.move hkk (fun b _ e => by have := hS b e; omega) hgr.1 (fun b hb => ?_) ⟨vl, v', ?_, ?_, ?_, fun g hg => ?_, fun g hg => ?_⟩ (perm_pushP L P X p), hkk.mono (fun b e => by have := hS b e; omega), hgr⟩
  · exact Nat.lt_of_lt_of_le (roBlk_lt h.lt (fun g hg => hd.sp.lt hg) hk.size hbk b hb) hk2.size
  · exact hr6.setCell 3 v'
  · exact (hd.sl.keeps hk (fun b hb e => by have := hd.rp b e; have := hd.rl b hb; omega)).keeps hk2 (fun b hb e => by have := hd.rl b hb; have := h.rr; subst e; omega)
  · rw [show cellsP (P ++ [p]) = cellsP P ++ [.pointer (some ⟨p.1, 0, none⟩)] by simp [cellsP], List.length_append]
    exact hown.keeps hk2 (fun b hb => hv'r b hb)
  · rw [roBlk_old hd.rp hbk g (hd.sl.lt hg)]; exact hd.rl g hg
  · unfold roBlk; rw [if_pos hg]
end Go.Proofs.Ytpiijfknpliahaa
