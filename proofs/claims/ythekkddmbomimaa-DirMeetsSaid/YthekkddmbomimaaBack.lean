/- The contract of slices.Backward over entries: the iterator hands over each entry with its place, the last one first. Conditions: the slice reads as entries; the loop's body leaves the slice's block and its box as they lie. -/
import Derived.Test.YthekkddmbomimaaRound
namespace Go.Proofs.Ythekkddmbomimaa
open Go.RowKit
set_option maxRecDepth 100000
attribute [local go_sem] Oper.semAt_some

/-- A place with its entry. -/
abbrev PE (xs : List En) := { x : Nat × En // xs[x.1]? = some x.2 }
def pairs (xs : List En) : List (PE xs) := (List.finRange xs.length).reverse.map fun i => ⟨(i.1, xs[i.1]), by simp⟩
theorem pairs_length (xs : List En) : (pairs xs).length = xs.length := by simp [pairs]
theorem pairs_at (xs : List En) (k : Nat) (hk : k < (pairs xs).length) : ((pairs xs)[k]).1.1 = xs.length - 1 - k := by
  simp [pairs]
def encP {xs : List En} (x : PE xs) : Array Value := #[.int .i64 x.1.1, .agg x.1.2.enc.toArray]
def KpB (Bs b : Nat) (W W' : World) : Prop := W'.heap[Bs]? = W.heap[Bs]? ∧ W'.heap[b]? = W.heap[b]?
theorem KpB.trans {Bs b : Nat} {A B C : World} (h : KpB Bs b A B) (k : KpB Bs b B C) : KpB Bs b A C := ⟨k.1.trans h.1, k.2.trans h.2⟩

set_option maxHeartbeats 2000000 in
theorem back1_in (F : Fence) (n : Nat) (h7 : F.fn 52) (hro : F.round = none) (hn : 1 ≤ n) (l Bs b off cap : Nat) (xs : List En) (hreach : xs.length ≤ 65536) (J Jx : List (PE xs) → World → Prop)
    (hY : ∀ pre x W, J pre W → pre.length < xs.length → YieldAt F (n - 1) Try.prog l (encP x) W fun e W' =>
      (e = .returned (.bool true) ∧ J (pre ++ [x]) W' ∧ KpB Bs b W W') ∨ (e = .returned (.bool false) ∧ Jx (pre ++ [x]) W'))
    (W : World) (hBs : W.cell? ⟨Bs, 0, none⟩ = some (.slice (some ⟨b, off, none⟩) xs.length cap)) (hc : ∀ j u, (cellsE xs)[j]? = some u → W.cell? ⟨b, off + j, none⟩ = some u) (h0 : J [] W) :
    CallsIn F n Try.prog 52 #[.func (.yield l) #[] #[], .pointer (some ⟨Bs, 0, none⟩)] W fun e W' => (∃ v, e = .returned v) ∧
      ((∃ ys, ys = pairs xs ∧ J ys W') ∨ (∃ pre, pre <+: pairs xs ∧ Jx pre W')) := by
  have HC := Lib.hid hc
  clear hc
  refine callsIn_of_wp Try.func52 rfl h7 ?_ hro
  simp only [Try.ntmps52, List.size_toArray, List.length_cons, List.length_nil, Nat.reduceAdd, Nat.reduceSub, Array.replicate_succ, Array.replicate_zero, List.push_toArray, List.append_toArray, List.nil_append, List.cons_append]
  gi_wp2
  gi_loopw [3] (fun i wr => ∃ r : Nat, r ≤ xs.length ∧ i = .int .i64 ((r : Int) - 1) ∧ Hid (J ((pairs xs).take (xs.length - r)) wr) ∧ Hid (KpB Bs b W wr))
    (fun i _ => ((intOf i) + 1).toNat)
  case atStart => exact ⟨xs.length, Nat.le_refl _, rfl, by rw [Nat.sub_self]; exact h0, ⟨rfl, rfl⟩⟩
  case round =>
    obtain ⟨r, hr, rfl, hJs, hnx⟩ := hrel
    have hbx : wr.cell? ⟨Bs, 0, none⟩ = some (.slice (some ⟨b, off, none⟩) xs.length cap) := (World.cell?_of_block (w := W) (a := ⟨Bs, 0, none⟩) hnx.out.1).trans hBs
    cases r with
    | zero =>
      simp only [show ((0 : Nat) : Int) - 1 = -1 from rfl]
      have hall : J (pairs xs) wr := by have := hJs.out; rwa [Nat.sub_zero, ← pairs_length xs, List.take_length] at this
      have HA := Lib.hid hall
      clear hall hJs hnx
      gi_wp2
      go_end0
      exact ⟨⟨_, rfl⟩, .inl ⟨_, rfl, HA.out⟩⟩
    | succ j =>
      simp only [show ((j + 1 : Nat) : Int) - 1 = (j : Int) by omega]
      have hkl : xs.length - (j + 1) < (pairs xs).length := by rw [pairs_length]; omega
      obtain ⟨x, hx⟩ : ∃ x, (pairs xs)[xs.length - (j + 1)] = x := ⟨_, rfl⟩
      have hx1 : x.1.1 = j := by rw [← hx, pairs_at]; omega
      have htk : (pairs xs).take (xs.length - j) = (pairs xs).take (xs.length - (j + 1)) ++ [x] := by
        rw [show xs.length - j = xs.length - (j + 1) + 1 by omega, List.take_add_one, List.getElem?_eq_getElem hkl, hx]; rfl
      have hpre : (pairs xs).take (xs.length - j) <+: pairs xs := List.take_prefix _ _
      obtain ⟨fn, tmps, assign, body, hy, hR⟩ := hY _ x wr hJs.out (by rw [List.length_take, pairs_length]; omega)
      have hxe := x.2
      unfold encP at hy
      rw [hx1] at hxe hy
      generalize x.1.2 = e at hxe hy
      rw [htk] at hpre
      obtain ⟨r0, r1, r2, r3⟩ := SlR.cells_at (w := W) HC.out hxe
      have cb : ∀ j, wr.cell? ⟨b, j, none⟩ = W.cell? ⟨b, j, none⟩ := fun j => World.cell?_of_block (w := W) (a := ⟨b, j, none⟩) hnx.out.2
      have c0 := (cb _).trans r0
      have c1 := (cb _).trans r1
      have c2 := (cb _).trans r2
      have c3 := (cb _).trans r3
      have HTK := Lib.hid htk
      have HPR := Lib.hid hpre
      have HR := Lib.hid hR
      have e3 : (j : Int) < xs.length := by omega
      unfold En.enc at hy
      clear r0 r1 r2 r3 cb hx htk hxe hx1 hpre hR
      gi_wp2
      refine HR.out.mono ?_
      rintro ee W3 (⟨rfl, hJ3, hk3⟩ | ⟨rfl, hJx3⟩)
      · have HJ := Lib.hid hJ3
        have HK := Lib.hid hk3
        clear hJ3 hk3
        gi_wp2
        go_roundw
        case rel => exact ⟨j, by omega, rfl, by rw [HTK.out]; exact HJ, hnx.out.trans HK.out⟩
        case measure => simp [intOf]
      · have HJ := Lib.hid hJx3
        clear hJx3
        gi_wp2
        refine bodyPost_ret (results_none rfl _ _ _) rfl ?_
        exact ⟨⟨_, rfl⟩, .inr ⟨_, HPR.out, HJ.out⟩⟩

/-- slices.Backward(s)'s iterator. -/
theorem back_stops (F : Fence) (n : Nat) (h7 : F.fn 52) (hro : F.round = none) (hn : 1 ≤ n) (Bs b off cap : Nat) (xs : List En) (hreach : xs.length ≤ 65536) (w : World) (hBs : Bs < w.heap.size) (hb : b < w.heap.size)
    (hc : w.cell? ⟨Bs, 0, none⟩ = some (.slice (some ⟨b, off, none⟩) xs.length cap)) (hI : ∀ j u, (cellsE xs)[j]? = some u → w.cell? ⟨b, off + j, none⟩ = some u) :
    SeqStopsK F n Try.prog 52 #[.pointer (some ⟨Bs, 0, none⟩)] (encP (xs := xs)) (KpB Bs b) (fun ys => ys = pairs xs) (fun pre => pre <+: pairs xs) xs.length w := fun l J Jx W hW _ _ hY h0 =>
  (back1_in F n h7 hro hn l Bs b off cap xs hreach J Jx hY W ((hW.cell (p := ⟨Bs, 0, none⟩) hBs).trans hc) (fun j u hu => (hW.cell (p := ⟨b, off + j, none⟩) hb).trans (hI j u hu)) h0).mono fun _ _ h => h

theorem Backward_any (w : World) (a : Option Addr) (n c : Nat) : Calls Try.prog 39 #[.slice a n c] w fun e w' => e = .returned (.func (.func 52) #[] #[.pointer (some ⟨w.heap.size, 0, none⟩)]) ∧ w' = w.alloc (.cells #[.slice a n c] 45) := by
  go_enter Try.func39, Try.ntmps39
  go_wp2
  go_ret
  exact ⟨rfl, rfl⟩
end Go.Proofs.Ythekkddmbomimaa
