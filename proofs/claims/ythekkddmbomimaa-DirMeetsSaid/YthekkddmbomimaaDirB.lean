/- The directory in memory ('DirAt'), and the contracts of New, bucket, lay, Insert over it. Conditions: the receiver is a directory in memory; the key reads as bytes; the numbers are of their kinds. -/
import Derived.Test.YthekkddmbomimaaDirA
import Derived.Test.YthekkddmbomimaaDirP
import Derived.Test.YthekkddmbomimaaOwn
namespace Go.Proofs.Ythekkddmbomimaa
open Go.RowKit
set_option maxRecDepth 100000

/-- A directory at block p: its entries in block pl, its counts in block pn. -/
structure DirAt (w : World) (p pl pn s : Nat) (L : List (List En)) : Prop where
  s1 : 1 ≤ s
  s16 : s ≤ 16
  b1 : 1 ≤ L.length
  b4 : L.length ≤ 4096
  lp : pl ≠ p
  ln : pl ≠ pn
  np : pn ≠ p
  head : Blk w p [.int .i64 s, .slice (some ⟨pl, 0, none⟩) (L.length * s) (L.length * s), .slice (some ⟨pn, 0, none⟩) L.length L.length] 69
  cnt : Blk w pn (L.map fun l => .int .i64 l.length) 3
  ent : ∃ E, Blk w pl (cellsE E) 55 ∧ Flat s L E
  ok : ∀ l ∈ L, ∀ e ∈ l, e.ok

theorem DirAt.keeps {S : Nat → Prop} {w w' : World} {p pl pn s : Nat} {L : List (List En)} (h : DirAt w p pl pn s L) (k : Keeps S w w') (h1 : ¬ S p) (h2 : ¬ S pl) (h3 : ¬ S pn) : DirAt w' p pl pn s L := by
  obtain ⟨E, hE, hF⟩ := h.ent
  exact ⟨h.s1, h.s16, h.b1, h.b4, h.lp, h.ln, h.np, h.head.keeps k h1, h.cnt.keeps k h3, ⟨E, hE.keeps k h2, hF⟩, h.ok⟩
theorem DirAt.below {w w' : World} {p pl pn s : Nat} {L : List (List En)} (h : DirAt w p pl pn s L) (k : Below w.heap.size w w') : DirAt w' p pl pn s L :=
  h.keeps (S := fun _ => False) (Keeps.ofBelow k) (fun h => h) (fun h => h) (fun h => h)
theorem DirAt.lts {w : World} {p pl pn s : Nat} {L : List (List En)} (h : DirAt w p pl pn s L) : p < w.heap.size ∧ pl < w.heap.size ∧ pn < w.heap.size := by
  obtain ⟨E, hE, hF⟩ := h.ent
  exact ⟨h.head.lt, hE.lt, h.cnt.lt⟩
theorem DirAt.le {w : World} {p pl pn s : Nat} {L : List (List En)} (h : DirAt w p pl pn s L) (i : Nat) (l : List En) (hl : L[i]? = some l) : l.length ≤ s := by
  obtain ⟨E, hE, hF⟩ := h.ent
  exact (hF.2 i l hl).1
theorem DirAt.mul (L s : Nat) (hs : s ≤ 16) (hL : L ≤ 4096) : L * s ≤ 65536 := Nat.le_trans (Nat.mul_le_mul hL hs) (by decide)

theorem bucket_dir {w : World} {p pl pn s : Nat} {L : List (List En)} (h : DirAt w p pl pn s L) (i : Nat) (l : List En) (hl : L[i]? = some l) :
    Calls Try.prog 38 #[.pointer (some ⟨p, 0, none⟩), .int .i64 i] w fun e w' => e = .returned (.slice (some ⟨pl, i * s * 4, none⟩) l.length s) ∧ (∃ n, w' = w.drewN n) ∧ SlR w' (.slice (some ⟨pl, i * s * 4, none⟩) l.length s) 4 l.length (cellsE l) := by
  have hi : i < L.length := (List.getElem?_eq_some_iff.1 hl).1
  obtain ⟨E, hE, hF⟩ := h.ent
  have hle := hF.le i hi
  rw [hF.1] at hle
  refine (bucket_any w p pl pn s (L.length * s) L.length i l.length h.s1 h.s16 hi (hF.2 i l hl).1 hle (DirAt.mul _ _ h.s16 h.b4)
    (h.head.cell rfl) (h.head.cell rfl) (h.head.cell rfl) (h.cnt.cell (by simp [hl]))).mono ?_
  rintro e w' ⟨rfl, n, rfl⟩
  refine ⟨rfl, ⟨n, rfl⟩, ?_⟩
  have h1 := (hF.2 i l hl).1
  have h2 := hF.le i hi
  have := (hE.drewN n).slr (i * s * 4) 4 l.length s (by rw [cellsE_length]; omega)
  rw [cellsE_drop, cellsE_take, (hF.2 i l hl).2] at this
  exact this

theorem lay_dir {w : World} {p pl pn s : Nat} {L : List (List En)} (h : DirAt w p pl pn s L) (i : Nat) (hi : i < L.length) (v : Value) (X : List En) (hv : SlR w v 4 X.length (cellsE X)) (hX : X.length ≤ s) (hok : ∀ e ∈ X, e.ok) :
    Calls Try.prog 37 #[.pointer (some ⟨p, 0, none⟩), .int .i64 i, v] w fun e w' => e = .returned (.tuple #[]) ∧ DirAt w' p pl pn s (L.set i X) ∧ Keeps (fun k => k = pl ∨ k = pn) w w' := by
  obtain ⟨E, hE, hF⟩ := h.ent
  have hle := hF.le i hi
  rw [hF.1] at hle
  refine (lay_any w p pl pn s (L.length * s) L.length i X.length (cellsE E) _ v (cellsE X) h.s1 h.s16 h.b4 hi hX hle (DirAt.mul _ _ h.s16 h.b4)
    (h.head.cell rfl) (h.head.cell rfl) (h.head.cell rfl) hE (by rw [cellsE_length, hF.1]) h.cnt (by simp) h.lp h.ln h.np hv (cellsE_one_cell X)).mono ?_
  rintro e w' ⟨rfl, h1, h2, h3⟩
  refine ⟨rfl, ⟨h.s1, h.s16, by simpa using h.b1, by simpa using h.b4, h.lp, h.ln, h.np, ?_, ?_, ⟨splice E (i * s) X, by rw [← cellsE_splice]; exact h1, hF.set i hi X hX⟩, ?_⟩, h3⟩
  · rw [List.length_set]; exact h.head.keeps h3 (by have := h.lp; have := h.np; omega)
  · have : ((L.set i X).map fun l => Value.int .i64 l.length) = (L.map fun l => Value.int .i64 l.length).set i (.int .i64 X.length) := by simp [List.map_set]
    rw [this]; exact h2
  · intro l hl e he
    rcases List.mem_or_eq_of_mem_set hl with hl | rfl
    · exact h.ok l hl e he
    · exact hok e he
end Go.Proofs.Ythekkddmbomimaa
