/- A memory that lies apart from all that was there ('St'); Put where it fits with no one weighed, and where it is too great. Conditions: named at each. -/
import Derived.Test.YtpiijfknpliahaaRamO
import Derived.Test.YtpiijfknpliahaaRamM
import Derived.Test.YtpiijfknpliahaaRamP
namespace Go.Proofs.Ytpiijfknpliahaa
open Go.RowKit

/-- The memory's blocks are all new since w0, and what was there lies as it lay. -/
structure St (w0 : World) (ro : Nat → Nat) (w : World) (r lim used : Nat) (L P : Ents) : Prop where
  ram : RamAt ro w r lim used L P []
  kept : Keeps (fun _ => False) w0 w
  new : ∀ b, ro b ≠ 0 → w0.heap.size ≤ b
variable {w0 w w' : World} {ro ro' : Nat → Nat} {r lim used used' : Nat} {L P L' P' : Ents}
theorem St.step (h : St w0 ro w r lim used L P) (hr : RamAt ro' w' r lim used' L' P' []) (k : Keeps (fun b => ro b ≠ 0) w w') (g : Grow ro ro' w) : St w0 ro' w' r lim used' L' P' :=
  ⟨hr, h.kept.transNew k (fun b hb e => by have := h.new b e; omega), fun b hb => by
    rcases g.2 b hb with e | e
    · exact h.new b e
    · exact Nat.le_trans h.kept.size e⟩
theorem St.below (h : St w0 ro w r lim used L P) (k : Keeps (fun _ => False) w w') : St w0 ro w' r lim used L P := ⟨h.ram.below k, h.kept.trans k, h.new⟩
theorem slo_apart (k : Keeps (fun b => ro b ≠ 0) w w') {v : Value} {e : TypeId} {size n : Nat} {cs : List Value} (hv : SlO w v e size n cs) (hf : ∀ g, blkOf v = some g → ro g = 0) : SlO w' v e size n cs :=
  hv.keeps k (fun b hb e => e (hf b hb))
theorem put_easy (h : St w0 ro w r lim used L P) (hlim : lim ≤ 1073741824) (hn : L.length ≤ 1073741822) (hn2 : P.length ≤ 1073741822) (hu : used ≤ 1073741824) (hsz : ∀ p ∈ L, p.2.size ≤ used) (k : Nat) (v : Value) (b : List Nat) (hv : SlR w v 1 b.length (bytesV b)) (hb : b.length ≤ 65536)
    (m : OutR) (hm : mOut k used L P = m) (hml : m.L.length ≤ 1073741823) (hmp : m.P.length ≤ 1073741823) (hfit : m.used + (b.length + 64) ≤ lim) :
    Calls Try.prog 12 #[.pointer (some ⟨r, 0, none⟩), .agg (keyR k).toArray, v] w fun e w' => e = .returned (.bool true) ∧ ∃ ro' e', St w0 ro' w' r lim (m.used + (b.length + 64)) (m.L ++ [(e', putIt k b m.o)]) (m.P.drop (trimN (m.L ++ [(e', putIt k b m.o)]) m.P)) ∧
      Keeps (fun b => ro b ≠ 0) w w' := by
  subst hm
  refine (Put_any h.ram (by omega) (by omega) hu hsz k v b hv hb true (mOut k used L P).used (mOut k used L P).L (mOut k used L P).P hml hmp (by omega) (.inr ⟨by omega, fun W ro2 e hR => ?_⟩)).mono ?_
  · refine (room_easy hR hfit hlim).mono ?_
    rintro e' W' ⟨rfl, hk⟩
    exact ⟨ro2, rfl, hR.below hk, hk.mono (fun _ h => h.elim), Grow.refl _ _⟩
  · rintro e w' ⟨rfl, ro', e', h1, h2, h3⟩
    exact ⟨rfl, ro', e', h.step h1 h2 h3, h2⟩
theorem put_big (h : St w0 ro w r lim used L P) (hn : L.length ≤ 1073741822) (hn2 : P.length ≤ 1073741822) (hu : used ≤ 1073741824) (hsz : ∀ p ∈ L, p.2.size ≤ used) (k : Nat) (v : Value) (b : List Nat) (hv : SlR w v 1 b.length (bytesV b)) (hb : b.length ≤ 65536)
    (m : OutR) (hm : mOut k used L P = m) (hml : m.L.length ≤ 1073741823) (hmp : m.P.length ≤ 1073741823) (hmu : m.used ≤ 1073741824) (hbig : lim < b.length + 64) :
    Calls Try.prog 12 #[.pointer (some ⟨r, 0, none⟩), .agg (keyR k).toArray, v] w fun e w' => e = .returned (.bool false) ∧ ∃ ro' e', St w0 ro' w' r lim m.used m.L ((m.P ++ [(e', oldI (putIt k b m.o))]).drop (trimN m.L (m.P ++ [(e', oldI (putIt k b m.o))]))) ∧
      Keeps (fun b => ro b ≠ 0) w w' := by
  subst hm
  refine (Put_any h.ram (by omega) (by omega) hu hsz k v b hv hb false (mOut k used L P).used (mOut k used L P).L (mOut k used L P).P hml hmp hmu (.inl ⟨hbig, rfl, rfl, rfl, rfl⟩)).mono ?_
  rintro e w' ⟨rfl, ro', e', h1, h2, h3⟩
  exact ⟨rfl, ro', e', h.step h1 h2 h3, h2⟩
theorem new_st (w0 w : World) (h0 : Keeps (fun _ => False) w0 w) (lim : Int) (n : Nat) (hn : min (max lim 0) 1073741824 = (n : Int)) :
    Calls Try.prog 10 #[.int .i64 lim] w fun e w' => ∃ r ro, e = .returned (.pointer (some ⟨r, 0, none⟩)) ∧ St w0 ro w' r n 0 [] [] := by
  refine (New_any w lim n hn).mono ?_
  rintro e w' ⟨r, ro, rfl, h1, h2, h3, h4⟩
  exact ⟨r, ro, rfl, h1, h0.trans h4, fun b hb => Nat.le_trans h0.size (h3 b hb)⟩
end Go.Proofs.Ytpiijfknpliahaa
