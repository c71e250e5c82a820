/- A slot of the document's directory, read and written anew. Conditions: named at each. -/
import Derived.Test.YthekkddmbomimaaSweepP
namespace Go.Proofs.Ythekkddmbomimaa
open Go.RowKit
set_option maxRecDepth 100000
attribute [local go_sem] Oper.semAt_some

theorem run_at {P : Program} {ops : Array Oper} {Q : Exit → Act → World → Prop} (d : Option Tmp) {i : Nat} {o : Oper} {K : Act → World → Prop} {a : Act} {w w' : World} (v : Value) (ho : ops[i]? = some o) (hg : Region.wanted o (yielded ops a.tmps) = true) (hd : o.dst = d)
    (hrun : (execOp a.eval o).run P w = .ok (.value v) w') (h : K (a.put d v) w') : wpOp P ops Q i K a w := by
  subst hd
  unfold wpOp
  rw [ho]
  simp only [hg, if_true]
  refine .inl ?_
  unfold Oper.wp
  rw [hrun]
  exact h
theorem RefAt.slot {F : Nat → Prop} {w : World} {q ql s : Nat} {L : List (List En)} (h : RefAt F w q ql s L) (i : Nat) (l : List En) (hl : L[i]? = some l) :
    ∃ v, w.cell? ⟨ql, i, none⟩ = some v ∧ SlOwn w v 55 4 l.length (cellsE l) ∧ (∀ g, blkOf v = some g → F g ∧ g ≠ q ∧ g ≠ ql) := by
  obtain ⟨vs, h1, h2⟩ := h.list
  have hi : i < vs.length := by rw [h2.len]; exact (List.getElem?_eq_some_iff.1 hl).1
  have hv : vs[i]? = some vs[i] := by simp [hi]
  exact ⟨vs[i], h1.cell hv, h2.own i _ l hv hl, fun g hg => h2.far i _ g hv hg⟩
/-- Slot i is written anew: its list is X now; of the old blocks only its own may have been written. -/
theorem RefAt.put {F : Nat → Prop} {w w1 : World} {q ql s : Nat} {L : List (List En)} (h : RefAt F w q ql s L) (i : Nat) (l : List En) (hl : L[i]? = some l) (v : Value) (hv0 : w.cell? ⟨ql, i, none⟩ = some v) (k : Keeps (fun b => blkOf v = some b) w w1)
    (v' : Value) (X : List En) (ho : SlOwn w1 v' 55 4 X.length (cellsE X)) (hb : ∀ g, blkOf v' = some g → F g ∧ (blkOf v = some g ∨ w.heap.size ≤ g)) (hok : ∀ e ∈ X, e.ok) (hle : X.length ≤ s) :
    RefAt F (w1.setCell ⟨ql, i, none⟩ v') q ql s (L.set i X) ∧ Keeps F w (w1.setCell ⟨ql, i, none⟩ v') := by
  obtain ⟨vs, h1, h2⟩ := h.list
  have hi : i < L.length := (List.getElem?_eq_some_iff.1 hl).1
  have hiv : i < vs.length := by rw [h2.len]; exact hi
  have hvi : vs[i]? = some v := by
    have := h1.cell (j := i) (v := vs[i]) (by simp [hiv])
    rw [hv0] at this
    simp [hiv, Option.some.inj this]
  have hF : ∀ b, blkOf v = some b → F b ∧ b ≠ q ∧ b ≠ ql := fun b hb => h2.far i v b hvi hb
  obtain ⟨lq, lql⟩ := h.lts
  have h1' : Blk w1 ql vs 45 := h1.keeps k (fun e => (hF _ e).2.2 rfl)
  have hk2 : Keeps (fun b => b = ql) w1 (w1.setCell ⟨ql, i, none⟩ v') := Keeps.setCell _ _ _ (fun _ => rfl)
  have hv'q : ∀ g, blkOf v' = some g → g ≠ q ∧ g ≠ ql := fun g hg => by
    rcases (hb g hg).2 with e | e
    · exact (hF g e).2
    · omega
  refine ⟨⟨h.s1, h.s16, by simpa using h.b1, by simpa using h.b4, h.ne, h.fq, h.fl, ?_, ⟨vs.set i v', h1'.setCell i v', ⟨by simp [h2.len], fun j u m hu hm => ?_, fun j1 j2 u1 u2 g hu1 hu2 hg1 hg2 => ?_, fun j u g hu hg => ?_⟩⟩, fun m hm e he => ?_, fun m hm => ?_⟩, ?_⟩
  · rw [List.length_set]
    exact (h.head.keeps k (fun e => (hF _ e).2.1 rfl)).keeps hk2 h.ne
  · by_cases hji : i = j
    · subst hji
      rw [List.getElem?_set_self hiv] at hu
      rw [List.getElem?_set_self hi] at hm
      obtain rfl := Option.some.inj hu
      obtain rfl := Option.some.inj hm
      exact ho.keeps hk2 (fun b hb2 => (hv'q b hb2).2)
    · rw [List.getElem?_set_ne hji] at hu hm
      refine ((h2.own j u m hu hm).keeps k (fun b hb2 e => hji (h2.apart i j v u b hvi hu e hb2))).keeps hk2 (fun b hb2 => (h2.far j u b hu hb2).2.2)
  · have key : ∀ j u, i ≠ j → (vs.set i v')[j]? = some u → ∀ g, blkOf u = some g → blkOf v' = some g → False := fun j u hij hu g hg hg' => by
      rw [List.getElem?_set_ne hij] at hu
      rcases (hb g hg').2 with e | e
      · exact hij (h2.apart i j v u g hvi hu e hg)
      · have hlj : j < L.length := by rw [← h2.len]; exact (List.getElem?_eq_some_iff.1 hu).1
        have := (h2.own j u L[j] hu (by simp [hlj])).lt hg
        omega
    by_cases e1 : i = j1
    · by_cases e2 : i = j2
      · omega
      · subst e1
        rw [List.getElem?_set_self hiv] at hu1
        obtain rfl := Option.some.inj hu1
        exact (key j2 u2 e2 hu2 g hg2 hg1).elim
    · by_cases e2 : i = j2
      · subst e2
        rw [List.getElem?_set_self hiv] at hu2
        obtain rfl := Option.some.inj hu2
        exact (key j1 u1 e1 hu1 g hg1 hg2).elim
      · rw [List.getElem?_set_ne e1] at hu1
        rw [List.getElem?_set_ne e2] at hu2
        exact h2.apart j1 j2 u1 u2 g hu1 hu2 hg1 hg2
  · by_cases hji : i = j
    · subst hji
      rw [List.getElem?_set_self hiv] at hu
      obtain rfl := Option.some.inj hu
      exact ⟨(hb g hg).1, hv'q g hg⟩
    · rw [List.getElem?_set_ne hji] at hu
      exact h2.far j u g hu hg
  · rcases List.mem_or_eq_of_mem_set hm with h3 | h3
    · exact h.ok m h3 e he
    · subst h3; exact hok e he
  · rcases List.mem_or_eq_of_mem_set hm with h3 | h3
    · exact h.le m h3
    · subst h3; exact hle
  · exact (k.mono (fun b e => (hF b e).1)).trans (hk2.mono (fun b e => by subst e; exact h.fl))
end Go.Proofs.Ythekkddmbomimaa
