/- Contracts of the test for a key, of slices.IndexFunc over it, of at. Conditions: the slice reads as pointers to entries that lie in memory. -/
import Derived.Test.YtpiijfknpliahaaRamB
namespace Go.Proofs.Ytpiijfknpliahaa
open Go.RowKit
set_option maxRecDepth 100000
attribute [local go_sem] Oper.semAt_some

def firstAt {α : Type} (p : α → Bool) : List α → Option Nat
  | [] => none
  | x :: l => if p x then some 0 else (firstAt p l).map (· + 1)
theorem firstAt_none {α : Type} (p : α → Bool) : ∀ (l : List α), (∀ x ∈ l, p x = false) → firstAt p l = none
  | [], _ => rfl
  | x :: l, h => by
    rw [firstAt, if_neg (by rw [h x (by simp)]; simp), firstAt_none p l (fun y hy => h y (by simp [hy]))]; rfl
theorem firstAt_some {α : Type} (p : α → Bool) : ∀ (l : List α) (k : Nat) (x : α), l[k]? = some x → p x = true → (∀ (j : Nat) y, j < k → l[j]? = some y → p y = false) → firstAt p l = some k
  | [], k, x, h, _, _ => by simp at h
  | y :: l, 0, x, h, hp, _ => by
    obtain rfl : y = x := by simpa using h
    rw [firstAt, if_pos hp]
  | y :: l, k + 1, x, h, hp, hn => by
    rw [firstAt, if_neg (by rw [hn 0 y (by omega) rfl]; simp), firstAt_some p l k x (by simpa using h) hp (fun j z hj hz => hn (j + 1) z (by omega) (by simpa using hz))]; rfl
theorem firstAt_get {α : Type} {p : α → Bool} : ∀ {l : List α} {k : Nat}, firstAt p l = some k → ∃ x, l[k]? = some x ∧ p x = true
  | [], k, h => by simp [firstAt] at h
  | y :: l, k, h => by
    rw [firstAt] at h
    split at h
    · obtain rfl : 0 = k := by simpa using h
      exact ⟨y, rfl, by assumption⟩
    · obtain ⟨j, hj, rfl⟩ := Option.map_eq_some_iff.1 h
      obtain ⟨x, hx, hp⟩ := firstAt_get hj
      exact ⟨x, by simpa using hx, hp⟩
theorem firstAt_map {α β : Type} (f : β → α) (p : α → Bool) : ∀ l : List β, firstAt p (l.map f) = firstAt (fun x => p (f x)) l
  | [] => rfl
  | x :: l => by simp only [List.map_cons, firstAt, firstAt_map f p l]
def idxI : Option Nat → Int
  | some i => i
  | none => -1

abbrev Ents := List (Nat × It)
def cellsP (E : Ents) : List Value := E.map fun p => Value.pointer (some ⟨p.1, 0, none⟩)
theorem cellsP_length (E : Ents) : (cellsP E).length = E.length := by simp [cellsP]
theorem cellsP_get {E : Ents} {i : Nat} {p : Nat × It} (h : E[i]? = some p) : (cellsP E)[i]? = some (.pointer (some ⟨p.1, 0, none⟩)) := by simp [cellsP, h]
theorem cellsP_one (E : Ents) : ∀ v ∈ cellsP E, v.oneCell' = true := by
  intro v hv
  obtain ⟨p, _, rfl⟩ := List.mem_map.1 hv
  rfl
structure EntAt (w : World) (p : Nat × It) : Prop where
  ex : ∃ vb, Blk w p.1 (entV p.2 vb) 65 ∧ SlR w vb 1 p.2.b.length (bytesV p.2.b)
  h1 : p.2.hits ≤ 1000
  s1 : p.2.size ≤ 65600
  b1 : p.2.b.length ≤ 65536
def hasK (k : Nat) (p : Nat × It) : Bool := p.2.k == k

set_option maxHeartbeats 1000000 in
theorem same_any {w : World} {e bk : Nat} {x : It} {vb : Value} {k : Nat} (he : Blk w e (entV x vb) 65) (hb : Blk w bk (keyR k) 30) :
    Calls Try.prog 51 #[.pointer (some ⟨e, 0, none⟩), .pointer (some ⟨bk, 0, none⟩)] w fun r w' => r = .returned (.bool (x.k == k)) ∧ Keeps (fun _ => False) w w' := by
  have hpart := he.part 0 (keyR x.k) (ent_key x vb)
  have HP := Lib.hid hpart
  have HB := Lib.hid hb
  have HE := Lib.hid he
  have e1 : decide (x.k = k) = (x.k == k) := by by_cases h : x.k = k <;> simp [h]
  have HE1 := Lib.hid e1
  clear hpart hb he e1
  go_enter Try.func51, Try.ntmps51
  go_wp2
  have hS0 : Keeps (fun _ => False) w w.drew := Keeps.drew _ _
  refine wp_region_held_drew (S := fun w' => Keeps (fun _ => False) w w') (by kernel_rfl) hS0 (fun _ => ?_)
  refine take_at 0 (some 4) (.pointer (some ⟨e, 0, none⟩)) rfl rfl (by kernel_rfl) (by kernel_rfl) (by kernel_rfl) (fun _ _ _ h => h) (.inl ⟨by rfl, fun w' hS => ?_⟩) hS0 ?_
  · go_simp
  try simp only [Act.put, List.setIfInBounds_toArray, List.set_cons_zero, List.set_cons_succ]
  refine take_at 1 (some 5) (.pointer (some ⟨e, 0, none⟩)) rfl rfl (by kernel_rfl) (by kernel_rfl) (by kernel_rfl) (fun _ _ _ h => h) (.inl ⟨by rfl, fun w' hS => ?_⟩) hS0 ?_
  · go_simp
  try simp only [Act.put, List.setIfInBounds_toArray, List.set_cons_zero, List.set_cons_succ]
  refine take_at 2 (some 6) (.pointer (some ⟨e, 0, none⟩)) rfl rfl (by kernel_rfl) (by kernel_rfl) (by kernel_rfl) (fun _ _ _ h => h) (.inl ⟨by rfl, fun w' hS => ?_⟩) hS0 ?_
  · go_simp
  try simp only [Act.put, List.setIfInBounds_toArray, List.set_cons_zero, List.set_cons_succ]
  refine take_at 3 (some 7) (.agg (keyR x.k).toArray) rfl rfl (by kernel_rfl) (by kernel_rfl) (by kernel_rfl) (fun _ _ _ h => h) (.inl ⟨by rfl, fun w' hS => ?_⟩) hS0 ?_
  · exact run_load_part ((HE.out.keeps hS id).part 0 (keyR x.k) (ent_key x vb)) 30 _ Try.underlying30 rfl (sizeKey _) _ _ (.tmp 6) rfl rfl
  try simp only [Act.put, List.setIfInBounds_toArray, List.set_cons_zero, List.set_cons_succ]
  refine take_at 4 (some 8) (.agg (keyR k).toArray) rfl rfl (by kernel_rfl) (by kernel_rfl) (by kernel_rfl) (fun _ _ _ h => h) (.inl ⟨by rfl, fun w' hS => ?_⟩) hS0 ?_
  · exact run_load_part ((HB.out.keeps hS id).part 0 (keyR k) (by simp [keyR])) 30 _ Try.underlying30 rfl (sizeKey _) _ _ (.tmp 1) rfl rfl
  try simp only [Act.put, List.setIfInBounds_toArray, List.set_cons_zero, List.set_cons_succ]
  refine take_at 5 (some 9) (.bool (decide (x.k = k))) rfl rfl (by kernel_rfl) (by kernel_rfl) (by kernel_rfl) (fun _ _ _ h => h) (.inl ⟨by rfl, fun w' hS => ?_⟩) hS0 ?_
  · have := run_equal_key x.k k w'
    go_simp
  try simp only [Act.put, List.setIfInBounds_toArray, List.set_cons_zero, List.set_cons_succ]
  refine take_at 6 (some 3) (.bool (decide (x.k = k))) rfl rfl (by kernel_rfl) (by kernel_rfl) (by kernel_rfl) (fun _ _ _ h => h) (.inl ⟨by rfl, fun w' hS => ?_⟩) hS0 ?_
  · go_simp
  try simp only [Act.put, List.setIfInBounds_toArray, List.set_cons_zero, List.set_cons_succ]
  refine wpAnyH_done (by kernel_rfl) ?_ _
  go_wp2
  go_ret
  exact ⟨by rw [← HE1.out]; rfl, hS0⟩

set_option maxHeartbeats 1000000 in
theorem IndexFunc_any (w : World) (bk k : Nat) (hB : Blk w bk (keyR k) 30) (v : Value) (E : Ents) (hv : SlR w v 1 E.length (cellsP E)) (hE : ∀ p ∈ E, EntAt w p) (hn : E.length ≤ 1073741824) :
    Calls Try.prog 50 #[v, .func (.func 51) #[] #[.pointer (some ⟨bk, 0, none⟩)]] w fun r w' => r = .returned (.int .i64 (idxI (firstAt (hasK k) E))) ∧ Keeps (fun _ => False) w w' := by
  obtain ⟨_, av, c, rfl, hc⟩ := hv
  have HC := Lib.hid hc
  have HB := Lib.hid hB
  have HO := Lib.hid hE
  clear hc hB hE
  go_enter Try.func50, Try.ntmps50
  go_wp2
  go_loopw [8] (fun i wr => ∃ m : Nat, i = .int .i64 m ∧ m ≤ E.length ∧ Hid (∀ (j : Nat) y, j < m → E[j]? = some y → hasK k y = false) ∧ Hid (Keeps (fun _ => False) w wr)) (fun i _ => E.length - (intOf i).toNat)
  case atStart => exact ⟨0, rfl, Nat.zero_le _, Lib.hid (fun j y hj => by omega), Lib.hid (Keeps.refl _ _)⟩
  case round =>
    obtain ⟨m, rfl, hm, hnone, hK⟩ := hrel
    by_cases hlt : m < E.length
    · rcases HC.out with h0 | ⟨b, off, rfl, hbl, hcc⟩
      · omega
      obtain ⟨p, hp⟩ : ∃ p, E[m]? = some p := ⟨E[m], by simp [hlt]⟩
      have c0 := (hK.out.cell (p := ⟨b, off + m, none⟩) hbl id).trans (hcc _ _ (cellsP_get hp))
      obtain ⟨vb, hblk, _⟩ := (HO.out p (List.mem_of_getElem? hp)).ex
      have hcall := same_any (hblk.keeps hK.out id) (HB.out.keeps hK.out id)
      change Calls _ _ _ _ fun r w' => r = .returned (.bool (hasK k p)) ∧ _ at hcall
      have HP := Lib.hid hp
      have a1 : (m : Int) < E.length := by omega
      clear hp hcc hblk
      cases hg : hasK k p with
      | true =>
        have hfin : idxI (firstAt (hasK k) E) = (m : Int) := by rw [firstAt_some _ E m p HP.out hg hnone.out]; rfl
        rw [hg] at hcall
        have HF := Lib.hid hfin
        have hcl := Lib.hid hcall
        clear hg hcall hfin
        go_wp2_with fail
        refine hcl.out.mono ?_
        rintro e w' ⟨rfl, hb2⟩
        have HB2 := Lib.hid hb2
        clear hb2
        go_wp2
        go_ret
        exact ⟨by rw [HF.out]; rfl, hK.out.trans HB2.out⟩
      | false =>
        have hnext : ∀ (j : Nat) y, j < m + 1 → E[j]? = some y → hasK k y = false := by
          intro j y hj hy
          by_cases hjk : j = m
          · subst hjk; rw [HP.out] at hy; obtain rfl : p = y := by simpa using hy
            exact hg
          · exact hnone.out j y (by omega) hy
        rw [hg] at hcall
        have HF := Lib.hid hnext
        have hcl := Lib.hid hcall
        clear hg hcall hnext
        go_wp2_with fail
        refine hcl.out.mono ?_
        rintro e w' ⟨rfl, hb2⟩
        have HB2 := Lib.hid (hK.out.trans hb2)
        clear hb2
        go_wp2
        go_roundw
        case rel => exact ⟨m + 1, by go_num, by omega, HF, HB2⟩
        case measure => simp [intOf]; omega
    · have hfin : idxI (firstAt (hasK k) E) = -1 := by
        rw [firstAt_none _ E (fun x hx => by
          obtain ⟨j, hj⟩ := List.getElem?_of_mem hx
          exact hnone.out j x (by have := (List.getElem?_eq_some_iff.1 hj).1; omega) hj)]; rfl
      have HF := Lib.hid hfin
      have a1 : ¬ (m : Int) < E.length := by omega
      clear hfin
      go_wp2
      go_ret
      exact ⟨by rw [HF.out]; rfl, hK.out⟩
theorem EntAt.keeps {S : Nat → Prop} {w w' : World} {p : Nat × It} (h : EntAt w p) (k : Keeps S w w') (h1 : ¬ S p.1) (h2 : ∀ b, b < w.heap.size → S b → ∃ o, w.heap[b]? = some o ∧ False) : EntAt w' p := by
  obtain ⟨vb, hb, hs⟩ := h.ex
  refine ⟨⟨vb, hb.keeps k h1, hs.keeps k (fun b off m c he hm hS => ?_)⟩, h.h1, h.s1, h.b1⟩
  obtain ⟨_, a, c', rfl, h0⟩ := hs
  cases he
  rcases h0 with h0 | ⟨b', off', hbb, hlt, _⟩
  · omega
  · cases hbb
    obtain ⟨_, _, hF⟩ := h2 b hlt hS
    exact hF
theorem EntAt.below {w w' : World} {p : Nat × It} (h : EntAt w p) (k : Keeps (fun _ => False) w w') : EntAt w' p := h.keeps k id (fun _ _ h => h.elim)
theorem at_any (w : World) (k : Nat) (v : Value) (E : Ents) (hv : SlR w v 1 E.length (cellsP E)) (hE : ∀ p ∈ E, EntAt w p) (hn : E.length ≤ 1073741824) :
    Calls Try.prog 44 #[v, .agg (keyR k).toArray] w fun r w' => r = .returned (.int .i64 (idxI (firstAt (hasK k) E))) ∧ Keeps (fun _ => False) w w' := by
  have hk1 : Keeps (fun _ => False) w (w.alloc (.cells (keyR k).toArray 30)) := Keeps.alloc _ _ _
  have hcall := IndexFunc_any (w.alloc (.cells (keyR k).toArray 30)) w.heap.size k (Blk.new w (keyR k) 30) v E (hv.keeps hk1 (fun _ _ _ _ _ _ h => h)) (fun p hp => (hE p hp).below hk1) hn
  have HC := Lib.hid hcall
  have HK := Lib.hid hk1
  have hmf : ∀ (fn : Fn) (first cap : Array Value) (w : World), (Instr.makeFunc fn first cap).run Try.prog w = .ok (.func fn first cap) w := fun _ _ _ _ => rfl
  clear hcall hk1 hv hE
  go_enter Try.func44, Try.ntmps44
  go_wp2_with fail
  refine HC.out.mono ?_
  rintro r w' ⟨rfl, hk2⟩
  have HK2 := Lib.hid (HK.out.trans hk2)
  clear hk2
  go_wp2
  go_ret
  exact ⟨rfl, HK2.out⟩
end Go.Proofs.Ytpiijfknpliahaa
