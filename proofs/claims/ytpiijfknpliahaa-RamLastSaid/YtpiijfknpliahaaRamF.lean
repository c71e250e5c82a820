/- The memory's lists as they lie in memory ('RamAt'): a ghost that tells each block's role; the moves that its functions make. Conditions: named at each. -/
import Derived.Test.YtpiijfknpliahaaRamE
namespace Go.Proofs.Ytpiijfknpliahaa
open Go.RowKit

/-- An entry that lies in memory: its block has role 4, its bytes' block role 5. -/
structure EntR (ro : Nat → Nat) (w : World) (p : Nat × It) : Prop where
  ex : ∃ vb, Blk w p.1 (entV p.2 vb) 65 ∧ SlO w vb 5 1 p.2.b.length (bytesV p.2.b) ∧ ∀ g, blkOf vb = some g → ro g = 5
  role : ro p.1 = 4
  h1 : p.2.hits ≤ 1000
  s1 : p.2.size ≤ 65600
  b1 : p.2.b.length ≤ 65536
theorem EntR.at {ro : Nat → Nat} {w : World} {p : Nat × It} (h : EntR ro w p) : EntAt w p := by
  obtain ⟨vb, h1, h2, _⟩ := h.ex
  exact ⟨⟨vb, h1, h2.slr⟩, h.h1, h.s1, h.b1⟩
theorem EntR.lt {ro : Nat → Nat} {w : World} {p : Nat × It} (h : EntR ro w p) : p.1 < w.heap.size := by
  obtain ⟨vb, h1, h2, _⟩ := h.ex; exact h1.lt
theorem EntR.keeps {ro ro' : Nat → Nat} {S : Nat → Prop} {w w' : World} {p : Nat × It} (h : EntR ro w p) (k : Keeps S w w') (h4 : ¬ S p.1) (h5 : ∀ b, b < w.heap.size → ro b = 5 → ¬ S b) (hro : ∀ b, b < w.heap.size → ro' b = ro b) : EntR ro' w' p := by
  obtain ⟨vb, h1, h2, h3⟩ := h.ex
  exact ⟨⟨vb, h1.keeps k h4, h2.keeps k (fun b hb => h5 b (h2.lt hb) (h3 b hb)), fun g hg => (hro g (h2.lt hg)).trans (h3 g hg)⟩, (hro _ h1.lt).trans h.role, h.h1, h.s1, h.b1⟩

structure RamHead (ro : Nat → Nat) (w : World) (r lim used : Nat) (L P : Ents) (vl vp : Value) : Prop where
  blk : Blk w r [.int .i64 lim, .int .i64 used, vl, vp] 56
  sl : SlO w vl 57 1 L.length (cellsP L)
  sp : SlO w vp 57 1 P.length (cellsP P)
  rl : ∀ g, blkOf vl = some g → ro g = 2
  rp : ∀ g, blkOf vp = some g → ro g = 3
/-- The memory at block r: limit, what the cached ones count, the cached entries, the history; X: entries that stand in neither list. -/
structure RamAt (ro : Nat → Nat) (w : World) (r lim used : Nat) (L P X : Ents) : Prop where
  head : ∃ vl vp, RamHead ro w r lim used L P vl vp
  rr : ro r = 1
  ents : ∀ p ∈ L ++ P ++ X, EntR ro w p
  nodup : ((L ++ P ++ X).map (·.1)).Nodup
  lt : ∀ b, ro b ≠ 0 → b < w.heap.size

def Grow (ro ro' : Nat → Nat) (w : World) : Prop := (∀ b, b < w.heap.size → ro' b = ro b) ∧ ∀ b, ro' b ≠ 0 → ro b ≠ 0 ∨ w.heap.size ≤ b
theorem Grow.refl (ro : Nat → Nat) (w : World) : Grow ro ro w := ⟨fun _ _ => rfl, fun _ h => .inl h⟩
theorem Grow.trans {a b c : Nat → Nat} {w w' : World} (h : Grow a b w) (k : Grow b c w') (hs : w.heap.size ≤ w'.heap.size) : Grow a c w :=
  ⟨fun i hi => (k.1 i (by omega)).trans (h.1 i hi), fun i hi => by
    rcases k.2 i hi with h1 | h1
    · exact h.2 i h1
    · right; omega⟩

variable {ro ro' : Nat → Nat} {w w' : World} {r lim used : Nat} {L P X : Ents}
theorem RamAt.lt_r (h : RamAt ro w r lim used L P X) : r < w.heap.size := by obtain ⟨_, _, h1⟩ := h.head; exact h1.blk.lt
theorem RamAt.at (h : RamAt ro w r lim used L P X) {p : Nat × It} (hp : p ∈ L ++ P ++ X) : EntAt w p := (h.ents p hp).at
theorem RamAt.atL (h : RamAt ro w r lim used L P X) {p : Nat × It} (hp : p ∈ L) : EntAt w p := h.at (by simp [hp])
theorem RamAt.atP (h : RamAt ro w r lim used L P X) {p : Nat × It} (hp : p ∈ P) : EntAt w p := h.at (by simp [hp])
/-- Entries move between the lists; of the old blocks none but those of roles 1, 2, 3 (and others') were written. -/
theorem RamAt.move {S : Nat → Prop} {lim' used' : Nat} {L' P' X' : Ents} (h : RamAt ro w r lim used L P X) (k : Keeps S w w') (hS : ∀ b, b < w.heap.size → S b → ro b ≠ 4 ∧ ro b ≠ 5) (hro : ∀ b, b < w.heap.size → ro' b = ro b) (hlt : ∀ b, ro' b ≠ 0 → b < w'.heap.size)
    (hd : ∃ vl vp, RamHead ro' w' r lim' used' L' P' vl vp) (hp : (L' ++ P' ++ X').Perm (L ++ P ++ X)) : RamAt ro' w' r lim' used' L' P' X' :=
  ⟨hd, (hro r h.lt_r).trans h.rr, fun p hpm => by
    have h0 := h.ents p (hp.mem_iff.1 hpm)
    exact h0.keeps k (fun hs => (hS _ h0.lt hs).1 h0.role) (fun b hb h5 hs => (hS b hb hs).2 h5) hro, (hp.map _).nodup_iff.2 h.nodup, hlt⟩
theorem RamAt.keeps {S : Nat → Prop} (h : RamAt ro w r lim used L P X) (k : Keeps S w w') (hS : ∀ b, S b → ro b = 0) : RamAt ro w' r lim used L P X := by
  obtain ⟨vl, vp, hb, hl, hp, rl, rp⟩ := h.head
  have hn : ∀ b n, ro b = n + 1 → ¬ S b := fun b n e hs => by have := hS b hs; omega
  refine ⟨⟨vl, vp, hb.keeps k (hn _ 0 h.rr), hl.keeps k (fun b e => hn b 1 (rl b e)), hp.keeps k (fun b e => hn b 2 (rp b e)), rl, rp⟩, h.rr, fun p hpm => ?_, h.nodup, fun b hb => Nat.lt_of_lt_of_le (h.lt b hb) k.size⟩
  exact (h.ents p hpm).keeps k (hn _ 3 (h.ents p hpm).role) (fun b _ e => hn b 4 e) (fun _ _ => rfl)
theorem RamAt.below (h : RamAt ro w r lim used L P X) (k : Keeps (fun _ => False) w w') : RamAt ro w' r lim used L P X := h.keeps k (fun _ h => h.elim)
/-- A loose entry is forgotten. -/
theorem RamAt.loose {p : Nat × It} (h : RamAt ro w r lim used L P (p :: X)) : RamAt ro w r lim used L P X :=
  ⟨h.head, h.rr, fun q hq => h.ents q (by
    simp only [List.mem_append, List.mem_cons] at hq ⊢
    rcases hq with (h1 | h1) | h1 <;> simp [h1]), by
    refine List.Nodup.sublist ?_ h.nodup
    exact List.Sublist.map _ (List.Sublist.append_left (List.sublist_cons_self p X) _), h.lt⟩
/-- An entry's number is written anew, wherever it stands. -/
def upd (e : Nat) (x : It) (E : Ents) : Ents := E.map fun q => if q.1 = e then (e, x) else q
theorem upd_fst (e : Nat) (x : It) (E : Ents) : (upd e x E).map (·.1) = E.map (·.1) := by
  unfold upd; rw [List.map_map]
  refine List.map_congr_left (fun q _ => ?_)
  simp only [Function.comp]; split
  · simp_all
  · rfl
theorem upd_cells (e : Nat) (x : It) (E : Ents) : cellsP (upd e x E) = cellsP E := by
  have h := congrArg (List.map fun b => Value.pointer (some ⟨b, 0, none⟩)) (upd_fst e x E)
  rw [List.map_map, List.map_map] at h
  exact h
theorem upd_length (e : Nat) (x : It) (E : Ents) : (upd e x E).length = E.length := by simp [upd]
theorem upd_append (e : Nat) (x : It) (A B : Ents) : upd e x (A ++ B) = upd e x A ++ upd e x B := by simp [upd]
theorem upd_not {e : Nat} {x : It} {E : Ents} (h : ∀ q ∈ E, q.1 ≠ e) : upd e x E = E := by
  unfold upd
  refine (List.map_congr_left (fun q hq => ?_)).trans (List.map_id E)
  simp [h q hq]
theorem RamAt.setEnt {p : Nat × It} {x : It} (h : RamAt ro w r lim used L P X) (hp : p ∈ L ++ P ++ X) (vb : Value) (hb : Blk w' p.1 (entV x vb) 65) (k : Keeps (fun b => b = p.1) w w') (hv : SlO w vb 5 1 x.b.length (bytesV x.b)) (hr : ∀ g, blkOf vb = some g → ro g = 5)
    (h1 : x.hits ≤ 1000) (s1 : x.size ≤ 65600) (b1 : x.b.length ≤ 65536) : RamAt ro w' r lim used (upd p.1 x L) (upd p.1 x P) (upd p.1 x X) := by
  obtain ⟨vl, vp, h0, hl, hpp, rl, rp⟩ := h.head
  have r4 := (h.ents p hp).role
  have hne : ∀ b n, ro b = n → n ≠ 4 → b ≠ p.1 := fun b n e hn he => by subst he; omega
  refine ⟨⟨vl, vp, h0.keeps k (hne _ 1 h.rr (by omega)), ?_, ?_, rl, rp⟩, h.rr, fun q hq => ?_, ?_, fun b hb => Nat.lt_of_lt_of_le (h.lt b hb) k.size⟩
  · rw [upd_cells, upd_length]; exact hl.keeps k (fun b e => hne b 2 (rl b e) (by omega))
  · rw [upd_cells, upd_length]; exact hpp.keeps k (fun b e => hne b 3 (rp b e) (by omega))
  · rw [← upd_append, ← upd_append] at hq
    obtain ⟨q0, hq0, rfl⟩ := List.mem_map.1 hq
    by_cases e : q0.1 = p.1
    · rw [if_pos e]
      exact ⟨⟨vb, hb, hv.keeps k (fun b e => hne b 5 (hr b e) (by omega)), hr⟩, r4, h1, s1, b1⟩
    · rw [if_neg e]
      exact (h.ents q0 hq0).keeps k e (fun b _ e5 => hne b 5 e5 (by omega)) (fun _ _ => rfl)
  · rw [← upd_append, ← upd_append, upd_fst]; exact h.nodup
theorem nodup_upd {p : Nat × It} {x : It} {A B : Ents} (h : ((A ++ p :: B).map (·.1)).Nodup) : upd p.1 x (A ++ p :: B) = A ++ (p.1, x) :: B := by
  rw [List.map_append, List.map_cons, List.nodup_append] at h
  obtain ⟨_, h2, h3⟩ := h
  have hA : upd p.1 x A = A := upd_not (fun q hq => h3 _ (List.mem_map_of_mem hq) _ (List.mem_cons_self ..))
  have hB : upd p.1 x B = B := upd_not (fun q hq e => (List.nodup_cons.1 h2).1 (by rw [← e]; exact List.mem_map_of_mem hq))
  rw [upd_append, hA]
  show A ++ (_ :: upd p.1 x B) = _
  rw [hB]; simp
end Go.Proofs.Ytpiijfknpliahaa
