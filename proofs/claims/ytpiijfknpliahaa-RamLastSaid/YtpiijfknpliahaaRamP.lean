/- Contract of the statements' key. Conditions: a number below 256. -/
import Derived.Test.YtpiijfknpliahaaRamK
import Derived.Laws.Tables
namespace Go.Proofs.Ytpiijfknpliahaa
open Go.RowKit
set_option maxRecDepth 100000
attribute [local go_sem] Oper.semAt_some

set_option maxHeartbeats 1000000 in
theorem key_any (w : World) (k : Nat) (hk : k < 256) : Calls Try.prog 13 #[.int .i64 k] w fun e w' => e = .returned (.agg (keyR k).toArray) ∧ Keeps (fun _ => False) w w' := by
  have hZ : Blk (w.alloc (.cells zeroKey.toArray 30)) w.heap.size zeroKey 30 := Blk.new w zeroKey 30
  have hK := hZ.setRow (keyR k)
  have hkk : Keeps (fun b => w.heap.size ≤ b) w ((w.alloc (.cells zeroKey.toArray 30)).setRow w.heap.size (keyR k).toArray) := (Keeps.alloc _ _ _).trans (Keeps.setRow _ _ _ (Nat.le_refl _))
  have hkf : Keeps (fun _ => False) w ((w.alloc (.cells zeroKey.toArray 30)).setRow w.heap.size (keyR k).toArray) := hkk.monoLt (fun b hb e => by omega)
  have e1 : IntKind.u8.wrap (k : Int) = (k : Int) := by rw [IntKind.wrap_u8]; omega
  have e2 : (k : Int) % 256 = (k : Int) := by omega
  have HZ := Lib.hid hZ
  have HK := Lib.hid hK
  have HF := Lib.hid hkf
  clear hZ hK hkk hkf
  go_enter Try.func13, Try.ntmps13
  go_wp2_with (first
    | (refine wpList_store_row rfl 30 (.tmp 2) (.tmp 5) rfl w.heap.size (keyR k).toArray rfl rfl 30 zeroKey.toArray HZ.out (sizeKey k) rfl (by kernel_rfl) ?_))
  exact bodyPost_ret (results_cell_row rfl _ _ w.heap.size 30 (keyR k).toArray (0, 0) _ rfl HK.out Try.underlying30 rfl (sizeKey k)) rfl ⟨rfl, HF.out⟩
end Go.Proofs.Ytpiijfknpliahaa
