/- Contract of Drop; the calls that RamLast makes, at a memory of one key. Conditions: named at each. -/
import Derived.Test.YtpiijfknpliahaaKeeps
namespace Go.Proofs.Ytpiijfknpliahaa
open Go.RowKit
set_option maxRecDepth 100000
attribute [local go_sem] Oper.semAt_some

set_option maxHeartbeats 1000000 in
theorem Drop_any {ro : Nat → Nat} {w : World} {r lim used : Nat} {L P : Ents} (h : RamAt ro w r lim used L P []) (hn : L.length ≤ 1073741824) (hn2 : P.length ≤ 1073741824) (hu : used ≤ 1073741824) (hsz : ∀ p ∈ L, p.2.size ≤ used) (k : Nat) (m : OutR) (hm : mOut k used L P = m) (hml : m.L.length ≤ 1073741824) (hmp : m.P.length ≤ 1073741824) :
    Calls Try.prog 26 #[.pointer (some ⟨r, 0, none⟩), .agg (keyR k).toArray] w fun e w' => e = .returned (.bool m.c) ∧ RamAt ro w' r lim m.used m.L (m.P.drop (trimN m.L m.P)) [] ∧ Keeps (fun b => ro b ≠ 0) w w' := by
  have hk1 : Keeps (fun _ => False) w (w.alloc (.cells (keyR k).toArray 30)) := Keeps.alloc _ _ _
  have hOUT := out_any (h.below hk1) hn hn2 hu hsz k
  rw [hm] at hOUT
  have HOUT := Lib.hid hOUT
  have HB := Lib.hid ((Blk.new w (keyR k) 30).part 0 (keyR k) (by simp [keyR]))
  have HK := Lib.hid hk1
  clear h hOUT hk1 hm
  go_enter_defers Try.func26, Try.ntmps26
  go_wp2_with (first | (refine wpList_load_part rfl 30 (.tmp 3) rfl w.heap.size 0 rfl (keyR k) HB.out _ Try.underlying30 rfl (sizeKey _) ?_))
  refine HOUT.out.mono ?_
  rintro e w4 ⟨rfl, hR4, hK4⟩
  have R4 := Lib.hid hR4.shrink
  have K4 := Lib.hid ((HK.out.mono (fun _ h => h.elim)).trans hK4)
  clear hR4 hK4
  go_wp2
  refine leaves_cons (f := 29) (args := #[.pointer (some ⟨r, 0, none⟩)]) (by simp) (by simp [go_sem]) ?_
  refine (trim_deferred .returning R4.out hml hmp).mono ?_
  rintro e u' w'' ⟨rfl, rfl, hRf, hKf⟩
  exact ⟨_, results_tmp rfl _ _ _, rfl, hRf, K4.out.trans hKf⟩

def One (used : Nat) (L : Ents) : Prop := (used = 0 ∧ L = []) ∨ ∃ e x, used = 66 ∧ L = [(e, x)] ∧ x.k = 1 ∧ x.size = 66
variable {w0 w : World} {ro : Nat → Nat} {r used : Nat} {L : Ents}
theorem One.sizes (h : One used L) : L.length ≤ 1 ∧ used ≤ 66 ∧ ∀ p ∈ L, p.2.size ≤ used := by
  rcases h with ⟨rfl, rfl⟩ | ⟨e, x, rfl, rfl, _, hs⟩
  · exact ⟨by simp, by omega, fun p hp => by cases hp⟩
  · refine ⟨by simp, by omega, fun p hp => ?_⟩
    obtain rfl : p = (e, x) := by simpa using hp
    show x.size ≤ 66
    omega
theorem One.out (h : One used L) : ∃ o c, mOut 1 used L [] = ⟨o, c, 0, [], []⟩ := by
  rcases h with ⟨rfl, rfl⟩ | ⟨e, x, rfl, rfl, hk, hs⟩
  · exact ⟨none, false, rfl⟩
  · refine ⟨some (e, x), true, ?_⟩
    have hh : hasK 1 (e, x) = true := by simp [hasK, hk]
    simp [mOut, firstAt, hh, hs]
theorem last_drop (h : St w0 ro w r 10000 used L []) (ho : One used L) : Calls Try.prog 26 #[.pointer (some ⟨r, 0, none⟩), .agg (keyR 1).toArray] w fun e w' => ∃ c, e = .returned (.bool c) ∧ St w0 ro w' r 10000 0 [] [] := by
  obtain ⟨h1, h2, h3⟩ := ho.sizes
  obtain ⟨o, c, hm⟩ := ho.out
  refine (Drop_any h.ram (by omega) (by simp) (by omega) h3 1 _ hm (by simp) (by simp)).mono ?_
  rintro e w' ⟨rfl, h4, h5⟩
  exact ⟨c, rfl, h.step h4 h5 (Grow.refl _ _)⟩
theorem last_put (h : St w0 ro w r 10000 used L []) (ho : One used L) (v : Value) (b : List Nat) (hb : b.length = 2) (hv : SlR w v 1 b.length (bytesV b)) : Calls Try.prog 12 #[.pointer (some ⟨r, 0, none⟩), .agg (keyR 1).toArray, v] w fun e w' => e = .returned (.bool true) ∧ ∃ ro' e' x', St w0 ro' w' r 10000 66 [(e', x')] [] ∧ x'.k = 1 ∧ x'.size = 66 ∧ x'.b = b := by
  obtain ⟨h1, h2, h3⟩ := ho.sizes
  obtain ⟨o, c, hm⟩ := ho.out
  refine (put_easy h (by omega) (by omega) (by simp) (by omega) h3 1 v b hv (by omega) _ hm (by simp) (by simp) (by simp; omega)).mono ?_
  rintro e w' ⟨rfl, ro', e', h4, -⟩
  have h5 : St w0 ro' w' r 10000 (0 + (b.length + 64)) [(e', putIt 1 b o)] [] := h4
  rw [hb] at h5
  exact ⟨rfl, ro', e', putIt 1 b o, h5, rfl, by show b.length + 64 = 66; omega, rfl⟩
theorem last_get {e : Nat} {x : It} (h : St w0 ro w r 10000 66 [(e, x)] []) (hk : x.k = 1) (hs : x.size = 66) : Calls Try.prog 15 #[.pointer (some ⟨r, 0, none⟩), .agg (keyR 1).toArray] w fun e' w' => ∃ a c ro' x', e' = .returned (.tuple #[.slice a x.b.length c, .bool true]) ∧ St w0 ro' w' r 10000 66 [(e, x')] [] ∧ x'.k = 1 ∧ x'.size = 66 ∧ SlR w' (.slice a x.b.length c) 1 x.b.length (bytesV x.b) := by
  have hf : firstAt (hasK 1) [(e, x)] = some 0 := by simp [firstAt, hasK, hk]
  refine (Get_hit h.ram (by simp) 1 0 (e, x) hf rfl).mono ?_
  rintro e' w' ⟨v, ro', rfl, h1, h2, h3, h4, -⟩
  obtain ⟨a, c, rfl, _⟩ := h4.form
  exact ⟨a, c, ro', hitI x, rfl, h.step h1 h2 h3, hk, hs, h4.slr⟩
theorem last_none (h : St w0 ro w r 10000 0 [] []) : Calls Try.prog 15 #[.pointer (some ⟨r, 0, none⟩), .agg (keyR 1).toArray] w fun e' w' => e' = .returned (.tuple #[.slice none 0 0, .bool false]) ∧ St w0 ro w' r 10000 0 [] [] := by
  refine (Get_none h.ram (by simp) (by simp) 1 rfl rfl).mono ?_
  rintro e' w' ⟨rfl, h1⟩
  exact ⟨rfl, h.below h1⟩
end Go.Proofs.Ytpiijfknpliahaa
