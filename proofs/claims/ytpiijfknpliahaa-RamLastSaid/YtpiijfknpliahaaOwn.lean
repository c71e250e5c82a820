/- A slice whose part of its array belongs to it alone ('SlO'), wherever in the array it begins; append to it, in place or in a new block. Plain lemmas over any program. -/
import Derived.Test.YtpiijfknpliahaaBase
namespace Go.Proofs.Ytpiijfknpliahaa
open Go.RowKit

def SlO (w : World) (v : Value) (e : TypeId) (size n : Nat) (cs : List Value) : Prop :=
  cs.length = n * size ∧ ∃ a c, v = .slice a n c ∧ n ≤ c ∧ c ≤ maxLen ∧ (c = 0 ∨ ∃ g off cur, a = some ⟨g, off, none⟩ ∧ Blk w g cur e ∧ off + c * size ≤ cur.length ∧ (cur.drop off).take (n * size) = cs)
/-- The block that the slice owns. -/
def blkOf : Value → Option Nat
  | .slice (some a) _ (_ + 1) => some a.block
  | _ => none

theorem SlO.nil (w : World) (e : TypeId) (size : Nat) : SlO w (.slice none 0 0) e size 0 [] := ⟨by simp, none, 0, rfl, Nat.le_refl _, Nat.zero_le _, .inl rfl⟩
theorem SlO.len {w : World} {v : Value} {e : TypeId} {size n : Nat} {cs : List Value} (h : SlO w v e size n cs) : cs.length = n * size := h.1
theorem SlO.slr {w : World} {v : Value} {e : TypeId} {size n : Nat} {cs : List Value} (h : SlO w v e size n cs) : SlR w v size n cs := by
  obtain ⟨hl, a, c, rfl, hnc, _, h2⟩ := h
  refine ⟨hl, a, c, rfl, ?_⟩
  rcases h2 with rfl | ⟨g, off, cur, rfl, hg, hc, ht⟩
  · exact .inl (by omega)
  · refine .inr ⟨g, off, rfl, hg.lt, fun j u hu => ?_⟩
    refine hg.cell ?_
    rw [← ht, List.getElem?_take] at hu; split at hu
    · rw [List.getElem?_drop] at hu; exact hu
    · simp at hu
theorem SlO.keeps {S : Nat → Prop} {w w' : World} {v : Value} {e : TypeId} {size n : Nat} {cs : List Value} (h : SlO w v e size n cs) (k : Keeps S w w') (hs : ∀ b, blkOf v = some b → ¬ S b) : SlO w' v e size n cs := by
  obtain ⟨hl, a, c, rfl, hnc, hm, h2⟩ := h
  refine ⟨hl, a, c, rfl, hnc, hm, ?_⟩
  rcases h2 with rfl | ⟨g, off, cur, rfl, hg, hc, ht⟩
  · exact .inl rfl
  · cases c with
    | zero => exact .inl rfl
    | succ c => exact .inr ⟨g, off, cur, rfl, hg.keeps k (hs g rfl), hc, ht⟩
theorem SlO.below {w w' : World} {v : Value} {e : TypeId} {size n : Nat} {cs : List Value} (h : SlO w v e size n cs) (k : Below w.heap.size w w') : SlO w' v e size n cs :=
  h.keeps (S := fun _ => False) (Keeps.ofBelow k) (fun _ _ h => h)
theorem SlO.lt {w : World} {v : Value} {e : TypeId} {size n : Nat} {cs : List Value} (h : SlO w v e size n cs) {b : Nat} (hb : blkOf v = some b) : b < w.heap.size := by
  obtain ⟨hl, a, c, rfl, hnc, hm, h2⟩ := h
  rcases h2 with rfl | ⟨g, off, cur, rfl, hg, hc, ht⟩
  · cases a <;> simp [blkOf] at hb
  · cases c with
    | zero => simp [blkOf] at hb
    | succ c => simp [blkOf] at hb; subst hb; exact hg.lt
theorem SlO.form {w : World} {v : Value} {e : TypeId} {size n : Nat} {cs : List Value} (h : SlO w v e size n cs) : ∃ a c, v = .slice a n c ∧ n ≤ c := by
  obtain ⟨hl, a, c, rfl, hnc, hm, h2⟩ := h; exact ⟨a, c, rfl, hnc⟩
theorem SlR.form {w : World} {v : Value} {size n : Nat} {cs : List Value} (h : SlR w v size n cs) : ∃ a c, v = .slice a n c := by
  obtain ⟨hl, a, c, rfl, h2⟩ := h; exact ⟨a, c, rfl⟩
theorem drop_splice {α : Type} (cur ds : List α) (off m : Nat) (h : off + m + ds.length ≤ cur.length) : ((splice cur (off + m) ds).drop off).take (m + ds.length) = (cur.drop off).take m ++ ds := by
  unfold splice
  rw [List.drop_append, List.drop_take, show off + m - off = m by omega, List.length_take, show off - min (off + m) cur.length = 0 by omega, List.drop_zero]
  have hl : ((cur.drop off).take m ++ ds).length = m + ds.length := by rw [List.length_append, List.length_take, List.length_drop]; omega
  rw [← List.append_assoc, ← hl, List.take_left]

theorem run_appendGrowK {P : Program} {w : World} (t u ty e : TypeId) (i : TypeInfo) (z : Value) (ht : P.underlying t = some (.slice e)) (hu : P.underlying u = some (.slice e)) (hi : P.info? e = some i) (hz : i.zero = some z)
    (a : Option Addr) (n c : Nat) (cs : List Value) (hv : SlR w (.slice a n c) i.size n cs) (x : Value) (m : Nat) (ds : List Value) (hx : SlR w x i.size m ds)
    (hg : c < n + m) (h63 : ((n + m : Nat) : Int) ≤ 9223372036854775807) (hfit : Builtin.nextslicecap (n + m) c * i.bytes ≤ 281474976710656) :
    (Builtin.append_ #[t, u] ty #[.slice a n c, x]).run P w =
      .ok (.slice (some ⟨w.heap.size, 0, none⟩) (n + m) (grownCap w (n + m) c e))
        (w.drew.alloc (.cells (cs.toArray ++ ds.toArray ++ Builtin.zeroCells z.cells (grownCap w (n + m) c e - (n + m))) e)) := by
  have hn : ¬ (n + m ≤ c) := by omega
  have h63' : ¬ (9223372036854775807 < ((n : Int) + (m : Int))) := by omega
  have h48' : ¬ (281474976710656 < Builtin.nextslicecap (n + m) c * i.bytes) := by omega
  have hx' : SlR w.drew x i.size m ds := hx
  have hv' : SlR w.drew (.slice a n c) i.size n cs := hv
  have hf := hx'.first (P := P) m (Nat.le_refl _)
  have ho := hv'.first (P := P) n (Nat.le_refl _)
  rw [List.take_of_length_le (by rw [hx.1]; omega)] at hf
  rw [List.take_of_length_le (by rw [hv.1]; omega)] at ho
  have hl := hx.lenOf (P := P)
  simp [Builtin.append_, run_underlying ht, run_underlying hu, sizeOf, typeInfo, zeroValue, hi, hz, hl, hn, h63', h48', Question.forced, hf, ho, newRow, grownCap]
  simp only [← List.append_toArray, Array.append_assoc]


theorem run_appendO {P : Program} {w : World} (t u ty e : TypeId) (i : TypeInfo) (z : Value) (size bytes : Nat) (ht : P.underlying t = some (.slice e)) (hu : P.underlying u = some (.slice e)) (hi : P.info? e = some i) (hz : i.zero = some z)
    (hsize : i.size = size) (hby : i.bytes = bytes) (hzs : z.cells.size = size)
    {v : Value} {n : Nat} {cs : List Value} (hv : SlO w v e size n cs) {x : Value} {m : Nat} {ds : List Value} (hx : SlR w x size m ds) (h1 : ∀ u ∈ ds, u.oneCell' = true)
    (h63 : n + m ≤ maxLen) (hbytes : (n + m) * bytes ≤ 140737488355328) :
    ∃ v' w', (Builtin.append_ #[t, u] ty #[v, x]).run P w = .ok v' w' ∧ SlO w' v' e size (n + m) (cs ++ ds) ∧ Keeps (fun k => blkOf v = some k) w w' ∧
      (blkOf v' = blkOf v ∨ blkOf v' = some w.heap.size ∧ w.heap.size < w'.heap.size) := by
  subst hsize; subst hby
  have hvR := hv.slr
  obtain ⟨hl, a, c, rfl, hnc, hm, h2⟩ := hv
  have hxl := hx.1
  have hlen : (cs ++ ds).length = (n + m) * i.size := by rw [List.length_append, hl, hxl, Nat.add_mul]
  by_cases hroom : n + m ≤ c
  · rcases h2 with rfl | ⟨g, off, cur, rfl, hg, hc, htk⟩
    · obtain rfl : n = 0 := by omega
      obtain rfl : m = 0 := by omega
      obtain rfl : cs = [] := List.eq_nil_of_length_eq_zero (by simpa using hl)
      obtain rfl : ds = [] := List.eq_nil_of_length_eq_zero (by simpa using hxl)
      refine ⟨.slice a 0 0, w, ?_, ⟨by simp, a, 0, rfl, Nat.le_refl _, Nat.zero_le _, .inl rfl⟩, Keeps.refl _ _, .inl rfl⟩
      have hf := hx.first (P := P) 0 (Nat.le_refl _)
      have hlo := hx.lenOf (P := P)
      clear hvR h63 hbytes hroom hlen h1 hx hxl hl
      cases a <;> simp [Builtin.append_, run_underlying ht, run_underlying hu, sizeOf, typeInfo, hi, hlo, hf, storeCells]
    · have hle : off + n * i.size + m * i.size ≤ cur.length := by
        have h3 : (n + m) * i.size ≤ c * i.size := Nat.mul_le_mul_right _ hroom
        rw [Nat.add_mul] at h3; omega
      have hr := run_appendRoomK (P := P) (w := w) t u ty e i ht hi i.size rfl hu hg off n c hx hroom hle h1
      have hblk : blkOf (.slice (some ⟨g, off, none⟩) n c) = blkOf (.slice (some ⟨g, off, none⟩) (n + m) c) := by cases c <;> rfl
      refine ⟨_, _, hr, ⟨hlen, _, c, rfl, hroom, hm, .inr ⟨g, off, _, rfl, hg.setRow _, ?_, ?_⟩⟩, ?_, .inl hblk.symm⟩
      · rw [length_splice _ _ _ (by omega)]; exact hc
      · have := drop_splice cur ds off (n * i.size) (by omega)
        rw [htk, hxl, ← Nat.add_mul] at this
        exact this
      · cases c with
        | zero =>
          obtain rfl : n = 0 := by omega
          obtain rfl : m = 0 := by omega
          obtain rfl : ds = [] := List.eq_nil_of_length_eq_zero (by simpa using hxl)
          have : splice cur (off + 0 * i.size) [] = cur := by simp [splice]
          rw [this, setRow_self w g cur.toArray e (0, 0) hg]; exact Keeps.refl _ _
        | succ c => exact Keeps.setRow _ _ _ rfl
  · have hg : c < n + m := by omega
    have h63' : n + m ≤ 9223372036854775807 := by simp only [maxLen] at h63; omega
    have hr := run_appendGrowK (P := P) (w := w) t u ty e i z ht hu hi hz a n c cs hvR x m ds hx hg (by omega) (growslice_fits hg hbytes)
    have hge := grownCap_ge w (n + m) c e
    have hcm : grownCap w (n + m) c e ≤ maxLen := grownCap_le_maxLen w (n + m) c e h63
    generalize grownCap w (n + m) c e = G at *
    refine ⟨_, _, hr, ⟨hlen, _, _, rfl, hge, hcm, .inr ⟨w.heap.size, 0, (cs.toArray ++ ds.toArray ++ Builtin.zeroCells z.cells (G - (n + m))).toList, rfl, by
        have := heap_alloc_new w.drew (.cells (cs.toArray ++ ds.toArray ++ Builtin.zeroCells z.cells (G - (n + m))) e)
        unfold Blk; rw [Array.toArray_toList]; exact this, ?_, ?_⟩⟩, (Keeps.drew _ _).trans (Keeps.alloc _ _ _), .inr ⟨?_, by simp⟩⟩
    · rw [Array.length_toList]
      simp only [Array.size_append, List.size_toArray, size_zeroCells, hzs, hl, hxl, ← Nat.add_mul]
      rw [Nat.zero_add]
      exact Nat.mul_le_mul_right _ (by omega)
    · simp only [Array.toList_append]
      rw [← hlen, List.drop_zero]; exact List.take_left
    · cases G with
      | zero => omega
      | succ G => rfl
end Go.Proofs.Ytpiijfknpliahaa
