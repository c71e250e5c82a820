/- A directory and the document's directory side by side in memory, and the contracts of both sides' calls over that. Conditions: named at each. -/
import Derived.Test.YthekkddmbomimaaEntries
namespace Go.Proofs.Ythekkddmbomimaa
open Go.RowKit

structure Both (base : Nat) (W : World) (p pl pn q ql s : Nat) (L M : List (List En)) : Prop where
  dir : DirAt W p pl pn s L
  bp : base ≤ p
  bpl : base ≤ pl
  bpn : base ≤ pn
  ref : ∃ F : Nat → Prop, RefAt F W q ql s M ∧ (∀ k, W.heap.size ≤ k → F k) ∧ (∀ k, F k → base ≤ k) ∧ ¬ F p ∧ ¬ F pl ∧ ¬ F pn

variable {base : Nat} {W : World} {p pl pn q ql s : Nat} {L M : List (List En)}
theorem Both.keeps {W' : World} (h : Both base W p pl pn q ql s L M) (k : Keeps (fun _ => False) W W') : Both base W' p pl pn q ql s L M := by
  obtain ⟨F, h1, h2, h3, h4⟩ := h.ref
  exact ⟨h.dir.keeps k id id id, h.bp, h.bpl, h.bpn, F, h1.keeps k (fun _ _ h => h), fun i hi => h2 i (Nat.le_trans k.size hi), h3, h4⟩
theorem Both.below {W' : World} (h : Both base W p pl pn q ql s L M) (k : Below W.heap.size W W') : Both base W' p pl pn q ql s L M := h.keeps (Keeps.ofBelow k)
theorem Both.ofNew {w W1 W2 : World} (hd : DirAt W1 p pl pn s L) (h1 : base ≤ p) (h2 : base ≤ pl) (h3 : base ≤ pn) (hb : base ≤ W1.heap.size) (hr : RefAt (fun k => W1.heap.size ≤ k) W2 q ql s M) (h12 : Below W1.heap.size W1 W2) (_hw : w = w) : Both base W2 p pl pn q ql s L M := by
  obtain ⟨l1, l2, l3⟩ := hd.lts
  exact ⟨hd.below h12, h1, h2, h3, _, hr, fun k hk => Nat.le_trans h12.size hk, fun k hk => Nat.le_trans hb hk, by omega, by omega, by omega⟩
theorem Both.newBoth {W' : World} (k : Keeps (fun k => base ≤ k) W W') {w : World} (hw : w.heap.size = base) (h0 : Keeps (fun _ => False) w W) : Keeps (fun _ => False) w W' :=
  h0.transNew k (fun i h1 h2 => by omega)
/-- Behind a call of the directory's. -/
theorem Both.stepD {W' : World} {L' : List (List En)} (h : Both base W p pl pn q ql s L M) (hd : DirAt W' p pl pn s L') (k : Keeps (fun k => k = pl ∨ k = pn) W W') : Both base W' p pl pn q ql s L' M := by
  obtain ⟨F, h1, h2, h3, h4, h5, h6⟩ := h.ref
  exact ⟨hd, h.bp, h.bpl, h.bpn, F, h1.keeps k (fun i hi e => by
    rcases e with rfl | rfl
    · exact h5 hi
    · exact h6 hi), fun i hi => h2 i (Nat.le_trans k.size hi), h3, h4, h5, h6⟩
theorem Both.keepsD {W' : World} (h : Both base W p pl pn q ql s L M) (k : Keeps (fun k => k = pl ∨ k = pn) W W') : Keeps (fun k => base ≤ k) W W' :=
  k.mono (fun i e => by
    rcases e with rfl | rfl
    · exact h.bpl
    · exact h.bpn)

theorem both_insD (h : Both base W p pl pn q ql s L M) {ks : List Value} {n t : Nat} (hk : IsKey ks n t) (at_ sec turn : Nat) (h1 : at_ < 4294967296) (h2 : sec < 65536) (h3 : turn < 18446744073709551616) :
    Calls Try.prog 17 #[.pointer (some ⟨p, 0, none⟩), .agg ks.toArray, .int .u32 at_, .int .u16 sec, .int .u64 turn] W fun e w' =>
      e = .returned (.int .i64 (mIns s L (n % L.length) t at_ sec turn).1) ∧ Both base w' p pl pn q ql s (mIns s L (n % L.length) t at_ sec turn).2 M ∧ Keeps (fun k => base ≤ k) W w' :=
  (Insert_dir h.dir hk at_ sec turn h1 h2 h3).mono fun _ _ ⟨h1, h2, h3⟩ => ⟨h1, h.stepD h2 h3, h.keepsD h3⟩
theorem both_insR (h : Both base W p pl pn q ql s L M) {ks : List Value} {n t : Nat} (hk : IsKey ks n t) (at_ sec turn : Nat) (h1 : at_ < 4294967296) (h2 : sec < 65536) (h3 : turn < 18446744073709551616) :
    Calls Try.prog 21 #[.pointer (some ⟨q, 0, none⟩), .agg ks.toArray, .int .u32 at_, .int .u16 sec, .int .u64 turn] W fun e w' =>
      e = .returned (.int .i64 (mIns s M (n % M.length) t at_ sec turn).1) ∧ Both base w' p pl pn q ql s L (mIns s M (n % M.length) t at_ sec turn).2 ∧ Keeps (fun k => base ≤ k) W w' := by
  obtain ⟨F, r1, r2, r3, r4, r5, r6⟩ := h.ref
  refine (Insert_ref r1 r2 hk at_ sec turn h1 h2 h3).mono fun _ _ ⟨h1, h2, h3⟩ => ⟨h1, ⟨h.dir.keeps h3 r4 r5 r6, h.bp, h.bpl, h.bpn, F, h2, fun i hi => r2 i (Nat.le_trans h3.size hi), r3, r4, r5, r6⟩, h3.mono r3⟩
theorem both_delD (h : Both base W p pl pn q ql s L M) {ks : List Value} {n t : Nat} (hk : IsKey ks n t) (at_ : Nat) :
    Calls Try.prog 19 #[.pointer (some ⟨p, 0, none⟩), .agg ks.toArray, .int .u32 at_] W fun e w' =>
      e = .returned (.bool (mDel L (n % L.length) t at_).1) ∧ Both base w' p pl pn q ql s (mDel L (n % L.length) t at_).2 M ∧ Keeps (fun k => base ≤ k) W w' := by
  have hi : n % L.length < L.length := Nat.mod_lt _ (by have := h.dir.b1; omega)
  exact (Del_dir h.dir hk at_ _ rfl L[n % L.length] (by simp [hi])).mono fun _ _ ⟨h1, h2, h3⟩ => ⟨h1, h.stepD h2 h3, h.keepsD h3⟩
theorem both_delR (h : Both base W p pl pn q ql s L M) {ks : List Value} {n t : Nat} (hk : IsKey ks n t) (at_ : Nat) :
    Calls Try.prog 22 #[.pointer (some ⟨q, 0, none⟩), .agg ks.toArray, .int .u32 at_] W fun e w' =>
      e = .returned (.bool (mDel M (n % M.length) t at_).1) ∧ Both base w' p pl pn q ql s L (mDel M (n % M.length) t at_).2 ∧ Keeps (fun k => base ≤ k) W w' := by
  obtain ⟨F, r1, r2, r3, r4, r5, r6⟩ := h.ref
  have hi : n % M.length < M.length := Nat.mod_lt _ (by have := r1.b1; omega)
  exact (Delete_ref r1 r2 hk at_ _ rfl M[n % M.length] (by simp [hi])).mono fun _ _ ⟨h1, h2, h3⟩ => ⟨h1, ⟨h.dir.keeps h3 r4 r5 r6, h.bp, h.bpl, h.bpn, F, h2, fun i hi => r2 i (Nat.le_trans h3.size hi), r3, r4, r5, r6⟩, h3.mono r3⟩
theorem both_probeD (h : Both base W p pl pn q ql s L M) {ks : List Value} {n t : Nat} (hk : IsKey ks n t) (X : List En) (hX : mProbe L (n % L.length) t = X) :
    Calls Try.prog 24 #[.pointer (some ⟨p, 0, none⟩), .agg ks.toArray] W fun e w' => ∃ v, e = .returned v ∧ SlR w' v 4 X.length (cellsE X) ∧ Keeps (fun _ => False) W w' := by
  have hi : n % L.length < L.length := Nat.mod_lt _ (by have := h.dir.b1; omega)
  have hd : L.getD (n % L.length) [] = L[n % L.length] := by simp [hi]
  unfold mProbe at hX
  rw [hd] at hX
  exact Probe_dir h.dir hk _ rfl L[n % L.length] (by simp [hi]) X hX
theorem both_probeR (h : Both base W p pl pn q ql s L M) {ks : List Value} {n t : Nat} (hk : IsKey ks n t) (X : List En) (hX : mProbe M (n % M.length) t = X) :
    Calls Try.prog 25 #[.pointer (some ⟨q, 0, none⟩), .agg ks.toArray] W fun e w' => ∃ v, e = .returned v ∧ SlR w' v 4 X.length (cellsE X) ∧ Keeps (fun _ => False) W w' := by
  obtain ⟨F, r1, r2, r3, r4, r5, r6⟩ := h.ref
  have hi : n % M.length < M.length := Nat.mod_lt _ (by have := r1.b1; omega)
  have hd : M.getD (n % M.length) [] = M[n % M.length] := by simp [hi]
  unfold mProbe at hX
  rw [hd] at hX
  exact Probe_ref r1 hk _ rfl M[n % M.length] (by simp [hi]) X hX
theorem Both.probe_le (h : Both base W p pl pn q ql s L M) (b t : Nat) : (mProbe L b t).length ≤ 65536 := by
  unfold mProbe
  refine Nat.le_trans (List.length_filter_le _ _) ?_
  rw [List.length_reverse]
  by_cases hb : b < L.length
  · have := h.dir.le b (L.getD b []) (by simp [hb])
    have := h.dir.s16; omega
  · simp [Nat.le_of_not_lt hb]
end Go.Proofs.Ythekkddmbomimaa
