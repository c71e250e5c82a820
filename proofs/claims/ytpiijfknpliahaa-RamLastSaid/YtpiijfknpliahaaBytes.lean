/- A slice of bytes that came in, as the frames of this seat's statements tell it to the walks. Conditions: none. -/
import Derived.Test.YtpiijfknpliahaaFrame
import Derived.Test.YtpiijfknpliahaaBase
import Derived.ShutString
import Derived.ChangeOld
import Derived.Below
namespace Go.Proofs.Ytpiijfknpliahaa
open Go.ChangeShapes Go.WideShapes Go.ChangeAt Go.RowKit

/-- What a walk is told of a slice of integers that came in: it is nil; or it leads to a row of 'cap' cells. -/
def IsRow (k : IntKind) (w : World) (a : Option Addr) (len cap : Nat) (zs : List Int) : Prop :=
  (a = none ∧ len = 0 ∧ cap = 0 ∧ zs = []) ∨
  ∃ x, a = some x ∧ len ≤ cap ∧ cap ≤ maxLen ∧ zs.length = cap ∧ (∀ i, i < zs.length → w.cell? (x.add i) = some (.int k (zs.getD i 0))) ∧ ∀ n ∈ zs, (Lit.int k n).wf = true
theorem nat_of_wf {k : IntKind} {B : Nat} {a : Int} (h : (Lit.int k a).wf = true) (hk : k.min = 0 ∧ k.max = (B : Int) - 1) : ∃ x : Nat, a = (x : Int) ∧ x < B := by
  have h2 : k.min ≤ a ∧ a ≤ k.max := by simpa [Lit.wf] using h
  rw [hk.1, hk.2] at h2
  exact ⟨a.toNat, by omega, by omega⟩
theorem IsRow.bytes {w : World} {a : Option Addr} {len cap : Nat} {zs : List Int} (h : IsRow .u8 w a len cap zs) :
    ∃ T : List Nat, T.length = len ∧ (∀ x ∈ T, x < 256) ∧ SlR w (.slice a len cap) 1 len (T.map fun x => Value.int .u8 (x : Nat)) := by
  rcases h with ⟨rfl, rfl, rfl, rfl⟩ | ⟨⟨b, off, spot⟩, rfl, hl, _, hz, hc, hw⟩
  · exact ⟨[], rfl, (fun _ hx => (List.not_mem_nil hx).elim), SlR.nil _ _ _ _⟩
  · have hnat : ∀ i, i < zs.length → ∃ x : Nat, zs.getD i 0 = (x : Int) ∧ x < 256 := fun i hi => by
      have hm : zs.getD i 0 ∈ zs := by
        rw [List.getD_eq_getElem?_getD, List.getElem?_eq_getElem hi]; exact List.getElem_mem hi
      exact nat_of_wf (B := 256) (hw _ hm) (by decide)
    refine ⟨(zs.take len).map Int.toNat, by simp; omega, fun x hx => ?_, by simp; omega, _, cap, rfl, ?_⟩
    · obtain ⟨z, hz1, rfl⟩ := List.mem_map.1 hx
      obtain ⟨i, hi⟩ := List.getElem?_of_mem (List.mem_of_mem_take hz1)
      have hil := (List.getElem?_eq_some_iff.1 hi).1
      obtain ⟨y, hy, hy2⟩ := hnat i hil
      rw [List.getD_eq_getElem?_getD, hi] at hy
      have : z = (y : Int) := hy
      omega
    · by_cases h0 : len = 0
      · exact .inl h0
      · have hc0 := hc 0 (by omega)
        have hspot : spot = none := by simpa [Addr.add] using World.cell?_spot hc0
        subst hspot
        refine .inr ⟨b, off, rfl, World.block_lt_of_cell? w _ hc0, fun j u hu => ?_⟩
        rw [List.map_map, List.getElem?_map, List.getElem?_take] at hu
        split at hu
        · rename_i hj
          have hjz : j < zs.length := by omega
          have hcj := hc j hjz
          obtain ⟨y, hy, hy2⟩ := hnat j hjz
          rw [List.getD_eq_getElem?_getD, List.getElem?_eq_getElem hjz] at hy hcj
          rw [List.getElem?_eq_getElem hjz] at hu
          have hy' : zs[j] = (y : Int) := hy
          have hu' : u = .int .u8 ((zs[j].toNat : Nat) : Int) := by simpa using hu.symm
          rw [hu']
          have hadd : (⟨b, off, none⟩ : Addr).add j = ⟨b, off + j, none⟩ := by
            unfold Addr.add
            by_cases hj0 : j = 0 <;> simp [hj0]
          have hcj' : w.cell? ⟨b, off + j, none⟩ = some (.int .u8 zs[j]) := by rw [← hadd]; exact hcj
          rw [hcj', hy']; simp
        · cases hu
end Go.Proofs.Ytpiijfknpliahaa
