/- The contract of the statements' own key. Conditions: none. -/
import Derived.Test.YthekkddmbomimaaDirJ
namespace Go.Proofs.Ythekkddmbomimaa
open Go.RowKit
set_option maxRecDepth 100000
attribute [local go_sem] Oper.semAt_some

def zeroK : List Value := [.int .u8 0, .int .u8 0, .int .u8 0, .int .u8 0, .int .u8 0, .int .u8 0, .int .u8 0, .int .u8 0, .int .u8 0, .int .u8 0, .int .u8 0, .int .u8 0, .int .u8 0, .int .u8 0, .int .u8 0, .int .u8 0, .int .u8 0, .int .u8 0, .int .u8 0, .int .u8 0, .int .u8 0, .int .u8 0, .int .u8 0, .int .u8 0, .int .u8 0, .int .u8 0, .int .u8 0, .int .u8 0, .int .u8 0, .int .u8 0, .int .u8 0, .int .u8 0]
def keyK (k : Nat) : List Value := [.int .u8 0, .int .u8 0, .int .u8 0, .int .u8 ((k : Int) % 7), .int .u8 0, .int .u8 (bits .and .u16 ((k : Int) / 16) 3 % 256), .int .u8 0, .int .u8 0, .int .u8 0, .int .u8 ((k : Int) % 256), .int .u8 0, .int .u8 0, .int .u8 0, .int .u8 0, .int .u8 0, .int .u8 0, .int .u8 0, .int .u8 0, .int .u8 0, .int .u8 0, .int .u8 0, .int .u8 0, .int .u8 0, .int .u8 0, .int .u8 0, .int .u8 0, .int .u8 0, .int .u8 0, .int .u8 0, .int .u8 0, .int .u8 0, .int .u8 0]
set_option maxHeartbeats 400000 in
theorem key_any (w : World) (k : Nat) :
    Calls Try.prog 18 #[.int .u16 k] w fun e w' => e = .returned (.agg (keyK k).toArray) ∧ Below w.heap.size w w' := by
  have hz : Blk (w.alloc (.cells #[.int .u8 0, .int .u8 0, .int .u8 0, .int .u8 0, .int .u8 0, .int .u8 0, .int .u8 0, .int .u8 0, .int .u8 0, .int .u8 0, .int .u8 0, .int .u8 0, .int .u8 0, .int .u8 0, .int .u8 0, .int .u8 0, .int .u8 0, .int .u8 0, .int .u8 0, .int .u8 0, .int .u8 0, .int .u8 0, .int .u8 0, .int .u8 0, .int .u8 0, .int .u8 0, .int .u8 0, .int .u8 0, .int .u8 0, .int .u8 0, .int .u8 0, .int .u8 0] 23)) w.heap.size zeroK 23 := Blk.new w zeroK 23
  have hz2 : Blk ((w.alloc (.cells #[.int .u8 0, .int .u8 0, .int .u8 0, .int .u8 0, .int .u8 0, .int .u8 0, .int .u8 0, .int .u8 0, .int .u8 0, .int .u8 0, .int .u8 0, .int .u8 0, .int .u8 0, .int .u8 0, .int .u8 0, .int .u8 0, .int .u8 0, .int .u8 0, .int .u8 0, .int .u8 0, .int .u8 0, .int .u8 0, .int .u8 0, .int .u8 0, .int .u8 0, .int .u8 0, .int .u8 0, .int .u8 0, .int .u8 0, .int .u8 0, .int .u8 0, .int .u8 0] 23)).alloc (.cells #[.int .u8 0, .int .u8 0, .int .u8 0, .int .u8 ((k : Int) % 7), .int .u8 0, .int .u8 (bits .and .u16 ((k : Int) / 16) 3 % 256), .int .u8 0, .int .u8 0, .int .u8 0, .int .u8 ((k : Int) % 256), .int .u8 0, .int .u8 0, .int .u8 0, .int .u8 0, .int .u8 0, .int .u8 0, .int .u8 0, .int .u8 0, .int .u8 0, .int .u8 0, .int .u8 0, .int .u8 0, .int .u8 0, .int .u8 0, .int .u8 0, .int .u8 0, .int .u8 0, .int .u8 0, .int .u8 0, .int .u8 0, .int .u8 0, .int .u8 0] 23)) w.heap.size zeroK 23 := hz.alloc _
  have hk2 : Blk ((w.alloc (.cells #[.int .u8 0, .int .u8 0, .int .u8 0, .int .u8 0, .int .u8 0, .int .u8 0, .int .u8 0, .int .u8 0, .int .u8 0, .int .u8 0, .int .u8 0, .int .u8 0, .int .u8 0, .int .u8 0, .int .u8 0, .int .u8 0, .int .u8 0, .int .u8 0, .int .u8 0, .int .u8 0, .int .u8 0, .int .u8 0, .int .u8 0, .int .u8 0, .int .u8 0, .int .u8 0, .int .u8 0, .int .u8 0, .int .u8 0, .int .u8 0, .int .u8 0, .int .u8 0] 23)).alloc (.cells #[.int .u8 0, .int .u8 0, .int .u8 0, .int .u8 ((k : Int) % 7), .int .u8 0, .int .u8 (bits .and .u16 ((k : Int) / 16) 3 % 256), .int .u8 0, .int .u8 0, .int .u8 0, .int .u8 ((k : Int) % 256), .int .u8 0, .int .u8 0, .int .u8 0, .int .u8 0, .int .u8 0, .int .u8 0, .int .u8 0, .int .u8 0, .int .u8 0, .int .u8 0, .int .u8 0, .int .u8 0, .int .u8 0, .int .u8 0, .int .u8 0, .int .u8 0, .int .u8 0, .int .u8 0, .int .u8 0, .int .u8 0, .int .u8 0, .int .u8 0] 23)) (w.heap.size + 1) (keyK k) 23 := by
    have := Blk.new (w.alloc (.cells #[.int .u8 0, .int .u8 0, .int .u8 0, .int .u8 0, .int .u8 0, .int .u8 0, .int .u8 0, .int .u8 0, .int .u8 0, .int .u8 0, .int .u8 0, .int .u8 0, .int .u8 0, .int .u8 0, .int .u8 0, .int .u8 0, .int .u8 0, .int .u8 0, .int .u8 0, .int .u8 0, .int .u8 0, .int .u8 0, .int .u8 0, .int .u8 0, .int .u8 0, .int .u8 0, .int .u8 0, .int .u8 0, .int .u8 0, .int .u8 0, .int .u8 0, .int .u8 0] 23)) (keyK k) 23
    rw [World.size_alloc] at this; exact this
  have hb : Below w.heap.size w ((w.alloc (.cells #[.int .u8 0, .int .u8 0, .int .u8 0, .int .u8 0, .int .u8 0, .int .u8 0, .int .u8 0, .int .u8 0, .int .u8 0, .int .u8 0, .int .u8 0, .int .u8 0, .int .u8 0, .int .u8 0, .int .u8 0, .int .u8 0, .int .u8 0, .int .u8 0, .int .u8 0, .int .u8 0, .int .u8 0, .int .u8 0, .int .u8 0, .int .u8 0, .int .u8 0, .int .u8 0, .int .u8 0, .int .u8 0, .int .u8 0, .int .u8 0, .int .u8 0, .int .u8 0] 23)).alloc (.cells #[.int .u8 0, .int .u8 0, .int .u8 0, .int .u8 ((k : Int) % 7), .int .u8 0, .int .u8 (bits .and .u16 ((k : Int) / 16) 3 % 256), .int .u8 0, .int .u8 0, .int .u8 0, .int .u8 ((k : Int) % 256), .int .u8 0, .int .u8 0, .int .u8 0, .int .u8 0, .int .u8 0, .int .u8 0, .int .u8 0, .int .u8 0, .int .u8 0, .int .u8 0, .int .u8 0, .int .u8 0, .int .u8 0, .int .u8 0, .int .u8 0, .int .u8 0, .int .u8 0, .int .u8 0, .int .u8 0, .int .u8 0, .int .u8 0, .int .u8 0] 23)) := ((Below.refl _ w).alloc (Nat.le_refl _) _).alloc (by simp) _
  have hS : (Try.prog.info? 23).map (·.size) = some (keyK k).toArray.size := by kernel_rfl
  have HZ := Lib.hid hz2
  have HK := Lib.hid hk2
  have HB := Lib.hid hb
  have HS := Lib.hid hS
  clear hz hz2 hk2 hb hS
  go_enter Try.func18, Try.ntmps18
  go_wp2_with (first
    | (refine wpList_load_row rfl 23 _ rfl (w.heap.size + 1) rfl 23 (keyK k).toArray (0, 0) _ HK.out Try.underlying23 rfl HS.out ?_)
    | (refine wpList_store_row rfl 23 (.tmp 2) (.tmp 16) rfl w.heap.size (keyK k).toArray rfl rfl 23 zeroK.toArray HZ.out HS.out rfl (by kernel_rfl) ?_))
  try simp only [Exit.inBlock, Exit.then]
  have hres := HZ.out.setRow (keyK k)
  refine bodyPost_ret (results_cell_row rfl _ _ w.heap.size 23 (keyK k).toArray (0, 0) _ rfl hres Try.underlying23 rfl HS.out) rfl ?_
  have hkp : Keeps (fun j => w.heap.size ≤ j) _ _ := (Keeps.ofBelow HB.out).trans (Keeps.setRow _ w.heap.size (keyK k).toArray (Nat.le_refl _))
  exact ⟨rfl, hkp.below (Nat.le_refl _) (fun _ h => h)⟩
theorem key_is (k : Nat) (hk : k < 65536) : IsKey (keyK k) (k % 7) (k / 16 % 4) := by
  have e1 : bits .and .u16 ((k : Int) / 16) 3 = (k : Int) / 16 % 4 := bits_mask .u16 16 (by decide) wraps_u16 2 (by decide) _ (by omega) (by omega)
  have h5 : (keyK k)[5]? = some (.int .u8 ((k / 16 % 4 : Nat) : Int)) := by
    show some (Value.int .u8 (bits .and .u16 ((k : Int) / 16) 3 % 256)) = _
    rw [e1]; congr 2; omega
  have h3 : (keyK k)[3]? = some (.int .u8 ((k % 7 : Nat) : Int)) := by
    show some (Value.int .u8 ((k : Int) % 7)) = _
    congr 2
  refine ⟨0, 0, 0, k % 7, 0, k / 16 % 4, rfl, rfl, rfl, h3, rfl, h5, by omega, by omega, by omega, by omega, by omega, by omega, by omega, by omega, rfl, ?_⟩
  intro v hv
  simp only [keyK, List.mem_cons, List.not_mem_nil, or_false] at hv
  rcases hv with h | h | h | h | h | h | h | h | h | h | h | h | h | h | h | h | h | h | h | h | h | h | h | h | h | h | h | h | h | h | h | h <;> (subst h; rfl)
end Go.Proofs.Ythekkddmbomimaa
