/- Contracts of hit, above; two keys held against one another. Conditions: the entries lie in memory; their numbers are small. -/
import Derived.Test.YtpiijfknpliahaaRamA
import Derived.ChangeKeysEq
import Derived.Laws.StructEq
namespace Go.Proofs.Ytpiijfknpliahaa
open Go.RowKit
set_option maxRecDepth 100000
attribute [local go_sem] Oper.semAt_some

theorem hit_any {w : World} {e : Nat} {x : It} {vb : Value} (he : Blk w e (entV x vb) 65) (hh : x.hits ≤ 1000) :
    Calls Try.prog 34 #[.pointer (some ⟨e, 0, none⟩)] w fun r w' => r = .returned (.tuple #[]) ∧ Blk w' e (entV { x with hits := min (x.hits + 1) 1000 } vb) 65 ∧ Keeps (fun k => k = e) w w' := by
  have c0 : w.drew.cell? ⟨e, 34, none⟩ = some (.int .i64 x.hits) := he.drew.cell (ent_hits x vb)
  have f0 : w.drew.frozen? ⟨e, 34, none⟩ = false := he.drew.frozen 34
  have e1 : IntKind.i64.wrap ((x.hits : Int) + 1) = (x.hits : Int) + 1 := by rw [IntKind.wrap_i64]; omega
  have e2 : min ((x.hits : Int) + 1) 1000 = ((min (x.hits + 1) 1000 : Nat) : Int) := by omega
  have hfin : Blk (w.drew.setCell ⟨e, 34, none⟩ (.int .i64 ((min (x.hits + 1) 1000 : Nat) : Int))) e (entV { x with hits := min (x.hits + 1) 1000 } vb) 65 := by
    rw [← ent_setHits]; exact he.drew.setCell 34 _
  have hk : Keeps (fun k => k = e) w (w.drew.setCell ⟨e, 34, none⟩ (.int .i64 ((min (x.hits + 1) 1000 : Nat) : Int))) := (Keeps.drew _ _).trans (Keeps.setCell _ _ _ (fun _ => rfl))
  have HF := Lib.hid hfin
  have HK := Lib.hid hk
  have hmin : ∀ W : World, (Builtin.min_ #[2, 2] 2 #[.int .i64 ((x.hits : Int) + 1), .int .i64 1000]).run Try.prog W = .ok (.int .i64 ((min (x.hits + 1) 1000 : Nat) : Int)) W := fun W => by rw [← e2]; exact run_min_int _ _ _ _ _ _ _
  generalize min (x.hits + 1) 1000 = m at *
  clear hfin hk he e2
  go_enter Try.func34, Try.ntmps34
  go_wp2
  go_region_held3 (fun _ => True) (trivial)
    (first
      | (go_at_call 33; refine (load_cell c0).mono ?_; rintro r w1 ⟨rfl, rfl⟩)
      | (go_at_call 32; refine (store_cell c0 f0 _).mono ?_; rintro r w1 ⟨rfl, rfl⟩))
  go_end0
  exact ⟨rfl, HF.out, HK.out⟩
theorem above_any {w : World} {e f : Nat} {x y : It} {vb vc : Value} (he : Blk w e (entV x vb) 65) (hf : Blk w f (entV y vc) 65) (h1 : x.hits ≤ 1000) (h2 : y.hits ≤ 1000) (s1 : x.size ≤ 4294967296) (s2 : y.size ≤ 4294967296) :
    Calls Try.prog 49 #[.pointer (some ⟨e, 0, none⟩), .pointer (some ⟨f, 0, none⟩)] w fun r w' => r = .returned (.bool (decide (y.hits * x.size < x.hits * y.size))) ∧ Keeps (fun _ => False) w w' := by
  have ch1 : w.drew.cell? ⟨e, 34, none⟩ = some (.int .i64 x.hits) := he.drew.cell (ent_hits x vb)
  have cs1 : w.drew.cell? ⟨e, 33, none⟩ = some (.int .i64 x.size) := he.drew.cell (ent_size x vb)
  have ch2 : w.drew.cell? ⟨f, 34, none⟩ = some (.int .i64 y.hits) := hf.drew.cell (ent_hits y vc)
  have cs2 : w.drew.cell? ⟨f, 33, none⟩ = some (.int .i64 y.size) := hf.drew.cell (ent_size y vc)
  have m1 : (x.hits : Int) * (y.size : Int) = ((x.hits * y.size : Nat) : Int) := by simp
  have m2 : (y.hits : Int) * (x.size : Int) = ((y.hits * x.size : Nat) : Int) := by simp
  have u1 : x.hits * y.size ≤ 1000 * 4294967296 := Nat.mul_le_mul h1 s2
  have u2 : y.hits * x.size ≤ 1000 * 4294967296 := Nat.mul_le_mul h2 s1
  generalize x.hits * y.size = A at *
  generalize y.hits * x.size = B at *
  have e1 : IntKind.i64.wrap (A : Int) = (A : Int) := by rw [IntKind.wrap_i64]; omega
  have e2 : IntKind.i64.wrap (B : Int) = (B : Int) := by rw [IntKind.wrap_i64]; omega
  have e3 : decide ((B : Int) < (A : Int)) = decide (B < A) := by simp
  have HE3 := Lib.hid e3
  clear he hf e3
  go_enter Try.func49, Try.ntmps49
  go_wp2
  go_region_held3 (fun w' => w' = w.drew) (rfl)
    (first
      | (go_at_call 33; refine (load_cell (by first | exact ch1 | exact ch2)).mono ?_; rintro r w1 ⟨rfl, rfl⟩))
  go_wp2
  go_ret
  exact ⟨by rw [← HE3.out]; rfl, Keeps.drew _ _⟩

theorem Try.c5 : Try.prog.cellsOf 5 = 1 := by kernel_rfl
theorem run_part5 (xs : Array Value) (i : Nat) (v : Value) (hv : xs[i]? = some v) (w : World) : (part 5 xs i).run Try.prog w = .ok v w := run_part_plain w (by kernel_rfl) hv
theorem run_items (xs ys : Array Value) (w : World) : ∀ (is : List Nat), (∀ i ∈ is, ∃ a : Int, xs[i]? = some (.int .u8 a) ∧ ys[i]? = some (.int .u8 a)) → (Op.eqItems 9999 5 1 xs ys is).run Try.prog w = .ok true w
  | [], _ => by simp [Op.eqItems]
  | i :: is, h => by
    obtain ⟨a, h1, h2⟩ := h i (List.mem_cons_self ..)
    have ih := run_items xs ys w is (fun j hj => h j (List.mem_cons_of_mem _ hj))
    have p1 := run_part5 xs i _ h1 w
    have p2 := run_part5 ys i _ h2 w
    have p3 := run_equalIn_int (P := Try.prog) w 9998 5 .u8 .u8 a a Try.underlying5
    simp only [Op.eqItems, Sem.run_bind, Nat.mul_one, p1, p2, Result.andThen_ok, p3]
    simpa using ih
theorem run_equal_key (a b : Nat) (w : World) : (Op.equalIn 10000 30 (.agg (keyR a).toArray) (.agg (keyR b).toArray)).run Try.prog w = .ok (decide (a = b)) w := by
  obtain ⟨i, hi⟩ : ∃ i, Try.prog.info? 5 = some i := by
    cases h : Try.prog.info? 5 with
    | none => exact absurd h (by decide +kernel)
    | some i => exact ⟨i, rfl⟩
  rw [run_equalIn_array (P := Try.prog) w 9999 _ _ Try.underlying30 hi, Try.c5]
  by_cases h : a = b
  · subst h
    rw [run_items _ _ w _ (fun i hi => ?_)]
    · simp
    · have : i < 32 := by simpa using hi
      match i, this with
      | 0, _ => exact ⟨_, rfl, rfl⟩
      | 1, _ => exact ⟨_, rfl, rfl⟩
      | j + 2, h =>
        have e : (keyR a).toArray[j + 2]? = some (.int .u8 0) := by
          rw [List.getElem?_toArray]
          show (List.replicate 30 (Value.int .u8 0))[j]? = _
          rw [List.getElem?_replicate, if_pos (by omega)]
        exact ⟨0, e, e⟩
  · have p1 := run_part5 (keyR a).toArray 0 (.int .u8 a) rfl w
    have p2 := run_part5 (keyR b).toArray 0 (.int .u8 b) rfl w
    have p3 := run_equalIn_int (P := Try.prog) w 9998 5 .u8 .u8 (a : Int) b Try.underlying5
    have hne : ((a : Int) == (b : Int)) = false := beq_eq_false_iff_ne.2 (by omega)
    rw [show List.range 32 = 0 :: (List.range 31).map (· + 1) by decide]
    simp only [Op.eqItems, Sem.run_bind, Nat.mul_one, p1, p2, Result.andThen_ok, p3, hne]
    simp [h]
end Go.Proofs.Ytpiijfknpliahaa
