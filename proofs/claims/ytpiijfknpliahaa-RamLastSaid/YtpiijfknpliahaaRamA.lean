/- The memory's entries: their cells; the contracts of the atomic load and store of the hits, of hit and above. Conditions: the entry lies in memory. -/
import Derived.Test.YtpiijfknpliahaaProg
import Derived.Test.YtpiijfknpliahaaOwn
import Derived.Laws.LoneSync
namespace Go.Proofs.Ytpiijfknpliahaa
open Go.RowKit
set_option maxRecDepth 100000
attribute [local go_sem] Oper.semAt_some

structure It where
  (k : Nat) (b : List Nat) (size hits : Nat)
  deriving DecidableEq
instance : Inhabited It := ⟨⟨0, [], 0, 0⟩⟩
def keyR (n : Nat) : List Value := .int .u8 n :: .int .u8 1 :: List.replicate 30 (.int .u8 0)
theorem keyR_length (n : Nat) : (keyR n).length = 32 := rfl
theorem keyR_one (n : Nat) : ∀ v ∈ keyR n, v.oneCell' = true := by
  intro v hv
  simp [keyR] at hv
  rcases hv with rfl | rfl | rfl <;> rfl
def bytesV (b : List Nat) : List Value := b.map fun x => Value.int .u8 (x : Nat)
theorem bytesV_length (b : List Nat) : (bytesV b).length = b.length := by simp [bytesV]
def entV (x : It) (vb : Value) : List Value := keyR x.k ++ [vb, .int .i64 x.size, .int .i64 x.hits]
theorem entV_length (x : It) (vb : Value) : (entV x vb).length = 35 := rfl
theorem ent_hits (x : It) (vb : Value) : (entV x vb)[34]? = some (.int .i64 x.hits) := rfl
theorem ent_size (x : It) (vb : Value) : (entV x vb)[33]? = some (.int .i64 x.size) := rfl
theorem ent_b (x : It) (vb : Value) : (entV x vb)[32]? = some vb := rfl
theorem ent_key (x : It) (vb : Value) : ((entV x vb).drop 0).take (keyR x.k).length = keyR x.k := by
  rw [List.drop_zero]; exact List.take_left
theorem ent_setHits (x : It) (vb : Value) (h : Nat) : (entV x vb).set 34 (.int .i64 h) = entV { x with hits := h } vb := rfl
theorem ent_setB (x : It) (vb vb' : Value) (b : List Nat) : (entV x vb).set 32 vb' = entV { x with b := b } vb' := rfl
theorem info65 : (Try.prog.info? 65).map (fun i => i.size) = some 35 := by kernel_rfl
theorem info57 : (Try.prog.info? 57).map (fun i => (i.zero, i.size, i.bytes)) = some (some (.pointer none), 1, 8) := by kernel_rfl
theorem info30 : (Try.prog.info? 30).map (·.size) = some 32 := by kernel_rfl
theorem sizeKey (n : Nat) : (Try.prog.info? 30).map (·.size) = some (keyR n).toArray.size := info30

theorem load_cell {w : World} {b o : Nat} {x : Int} (hc : w.cell? ⟨b, o, none⟩ = some (.int .i64 x)) :
    Calls Try.prog 33 #[.pointer (some ⟨b, o, none⟩)] w fun e w' => e = .returned (.int .i64 x) ∧ w' = w := by
  have hl := run_call_load (P := Try.prog) Try.func48 (by kernel_rfl) (by kernel_rfl) (by kernel_rfl) .i64 (by kernel_rfl) hc
  go_enter Try.func33, Try.ntmps33
  go_wp2
  go_ret
  exact ⟨rfl, rfl⟩
theorem store_cell {w : World} {b o : Nat} {x : Value} (hc : w.cell? ⟨b, o, none⟩ = some x) (hz : w.frozen? ⟨b, o, none⟩ = false) (y : Int) :
    Calls Try.prog 32 #[.pointer (some ⟨b, o, none⟩), .int .i64 y] w fun e w' => e = .returned (.tuple #[]) ∧ w' = w.setCell ⟨b, o, none⟩ (.int .i64 y) := by
  have hs := run_call_store (P := Try.prog) Try.func47 (by kernel_rfl) (by kernel_rfl) (by kernel_rfl) (by kernel_rfl) (k := .i64) (y := y) hc hz
  go_enter Try.func32, Try.ntmps32
  go_wp2
  go_end0
  exact ⟨rfl, rfl⟩
end Go.Proofs.Ytpiijfknpliahaa
