/- The plain side of the directory: entries as cells; what insert, probe, delete, purge make of a bucket. No program, no memory. -/
import Derived.Test.YthekkddmbomimaaBase
namespace Go.Proofs.Ythekkddmbomimaa

structure En where
  (tag at_ sec turn : Nat)
  deriving DecidableEq

instance : Inhabited En := ⟨⟨0, 0, 0, 0⟩⟩

def En.ok (e : En) : Prop := e.tag < 65536 ∧ e.at_ < 4294967296 ∧ e.sec < 65536 ∧ e.turn < 18446744073709551616
def En.enc (e : En) : List Value := [.int .u16 e.tag, .int .u32 e.at_, .int .u16 e.sec, .int .u64 e.turn]
theorem En.enc_length (e : En) : e.enc.length = 4 := rfl
def cellsE (E : List En) : List Value := E.flatMap En.enc

theorem cellsE_nil : cellsE [] = [] := rfl
theorem cellsE_cons (e : En) (E : List En) : cellsE (e :: E) = e.enc ++ cellsE E := rfl
theorem cellsE_append (A B : List En) : cellsE (A ++ B) = cellsE A ++ cellsE B := by simp [cellsE]
theorem cellsE_one (e : En) : cellsE [e] = e.enc := by simp [cellsE]
theorem cellsE_length (E : List En) : (cellsE E).length = E.length * 4 := by
  induction E with
  | nil => rfl
  | cons e E ih => rw [cellsE_cons, List.length_append, ih, En.enc_length, List.length_cons]; omega
theorem cellsE_one_cell (E : List En) : ∀ v ∈ cellsE E, v.oneCell' = true := by
  intro v hv
  obtain ⟨e, _, h⟩ := List.mem_flatMap.1 hv
  simp [En.enc] at h
  rcases h with rfl | rfl | rfl | rfl <;> rfl
theorem cellsE_drop (E : List En) (k : Nat) : (cellsE E).drop (k * 4) = cellsE (E.drop k) := by
  induction k generalizing E with
  | zero => simp
  | succ k ih =>
    cases E with
    | nil => simp [cellsE]
    | cons e E =>
      rw [cellsE_cons, show (k + 1) * 4 = e.enc.length + k * 4 by rw [En.enc_length]; omega, List.drop_append, List.drop_succ_cons, ← ih E]
      simp [En.enc_length]
theorem cellsE_take (E : List En) (k : Nat) : (cellsE E).take (k * 4) = cellsE (E.take k) := by
  induction k generalizing E with
  | zero => simp [cellsE]
  | succ k ih =>
    cases E with
    | nil => simp [cellsE]
    | cons e E =>
      rw [cellsE_cons, show (k + 1) * 4 = e.enc.length + k * 4 by rw [En.enc_length]; omega, List.take_append, List.take_succ_cons, cellsE_cons, ← ih E]
      simp only [Nat.add_sub_cancel_left, List.append_cancel_right_eq]
      exact List.take_of_length_le (by rw [En.enc_length]; omega)
theorem cellsE_splice (E X : List En) (k : Nat) : splice (cellsE E) (k * 4) (cellsE X) = cellsE (splice E k X) := by
  unfold splice
  rw [cellsE_append, cellsE_append, cellsE_take, cellsE_length, ← Nat.add_mul, cellsE_drop]
theorem cellsE_get (E : List En) (i c : Nat) (hc : c < 4) : (cellsE E)[i * 4 + c]? = (E[i]?).bind fun e => e.enc[c]? := by
  have h := cellsE_drop E i
  rw [← List.getElem?_drop, h]
  cases hd : E.drop i with
  | nil =>
    have : E.length ≤ i := by simpa using hd
    rw [List.getElem?_eq_none this]; rfl
  | cons e R =>
    have he : E[i]? = some e := by
      have := List.getElem?_drop (xs := E) (i := i) (j := 0)
      rw [hd] at this; simpa using this.symm
    rw [he, cellsE_cons, List.getElem?_append_left (by rw [En.enc_length]; exact hc)]; rfl
theorem cellsE_at {E : List En} {i : Nat} {e : En} (h : E[i]? = some e) :
    (cellsE E)[i * 4]? = some (.int .u16 e.tag) ∧ (cellsE E)[i * 4 + 1]? = some (.int .u32 e.at_) ∧ (cellsE E)[i * 4 + 2]? = some (.int .u16 e.sec) ∧ (cellsE E)[i * 4 + 3]? = some (.int .u64 e.turn) := by
  refine ⟨?_, ?_, ?_, ?_⟩
  · have := cellsE_get E i 0 (by omega); rw [Nat.add_zero] at this; rw [this, h]; rfl
  · rw [cellsE_get E i 1 (by omega), h]; rfl
  · rw [cellsE_get E i 2 (by omega), h]; rfl
  · rw [cellsE_get E i 3 (by omega), h]; rfl

/-- What a bucket of a flat array of buckets of s places each, holds behind a splice at bucket i. -/
theorem splice_length {α : Type} (L : List α) (o : Nat) (X : List α) (h : o + X.length ≤ L.length) : (splice L o X).length = L.length := length_splice L o X h
theorem bucket_same {α : Type} (E X : List α) (k : Nat) (hk : k + X.length ≤ E.length) : ((splice E k X).drop k).take X.length = X := by
  unfold splice
  rw [List.drop_append, List.drop_of_length_le (by simp; omega)]
  simp [Nat.min_eq_left (show k ≤ E.length by omega)]
theorem bucket_other {α : Type} (E X : List α) (s i j n : Nat) (hX : X.length ≤ s) (hn : n ≤ s) (hij : i ≠ j) (hE' : j * s + s ≤ E.length) :
    ((splice E (i * s) X).drop (j * s)).take n = (E.drop (j * s)).take n := by
  apply List.ext_getElem?
  intro t
  simp only [List.getElem?_take, List.getElem?_drop]
  by_cases ht : t < n
  · rw [if_pos ht, if_pos ht]
    unfold splice
    rcases Nat.lt_or_gt_of_ne hij with h | h
    · have h1 : i * s + s ≤ j * s := by rw [← Nat.succ_mul]; exact Nat.mul_le_mul_right s h
      rw [List.getElem?_append_right (by simp; omega), List.getElem?_append_right (by simp; omega), List.getElem?_drop]
      congr 1; simp; omega
    · have h1 : j * s + s ≤ i * s := by rw [← Nat.succ_mul]; exact Nat.mul_le_mul_right s h
      rw [List.getElem?_append_left (by simp; omega), List.getElem?_take, if_pos (by omega)]
  · rw [if_neg ht, if_neg ht]

/-- Buckets in one flat array: bucket i at place i * s. -/
def Flat (s : Nat) (L : List (List En)) (E : List En) : Prop :=
  E.length = L.length * s ∧ ∀ i l, L[i]? = some l → l.length ≤ s ∧ (E.drop (i * s)).take l.length = l

theorem Flat.set {s : Nat} {L : List (List En)} {E : List En} (h : Flat s L E) (i : Nat) (hi : i < L.length) (X : List En) (hX : X.length ≤ s) : Flat s (L.set i X) (splice E (i * s) X) := by
  have hE : i * s + s ≤ E.length := by rw [h.1, ← Nat.succ_mul]; exact Nat.mul_le_mul_right s hi
  refine ⟨by rw [splice_length _ _ _ (by omega), List.length_set]; exact h.1, fun j l hj => ?_⟩
  rw [List.getElem?_set] at hj
  by_cases e : i = j
  · subst e
    rw [if_pos rfl, if_pos hi] at hj
    obtain rfl : X = l := by simpa using hj
    exact ⟨hX, bucket_same _ _ _ (by omega)⟩
  · rw [if_neg e] at hj
    obtain ⟨h1, h2⟩ := h.2 j l hj
    have hjl : j < L.length := (List.getElem?_eq_some_iff.1 hj).1
    have hE' : j * s + s ≤ E.length := by rw [h.1, ← Nat.succ_mul]; exact Nat.mul_le_mul_right s hjl
    exact ⟨h1, (bucket_other E X s i j l.length hX h1 e hE').trans h2⟩
theorem Flat.le {s : Nat} {L : List (List En)} {E : List En} (h : Flat s L E) (i : Nat) (hi : i < L.length) : i * s + s ≤ E.length := by
  rw [h.1, ← Nat.succ_mul]; exact Nat.mul_le_mul_right s hi

/- The document's directory, plainly. -/
def mIns (s : Nat) (L : List (List En)) (b t at_ sec turn : Nat) : Int × List (List En) :=
  if sec = 0 ∨ 9223372036854775808 ≤ turn then (40, L)
  else if s ≤ (L.getD b []).length then (50, L)
  else (0, L.set b (L.getD b [] ++ [⟨t, at_, sec, turn⟩]))
def mProbe (L : List (List En)) (b t : Nat) : List En := (L.getD b []).reverse.filter fun e => e.tag == t
/-- The last place at which p holds, struck. -/
def delLast {α : Type} (p : α → Bool) : List α → Option (List α)
  | [] => none
  | x :: l => match delLast p l with
    | some l' => some (x :: l')
    | none => if p x then some l else none
def mDel (L : List (List En)) (b t at_ : Nat) : Bool × List (List En) :=
  match delLast (fun e => e.tag == t && e.at_ == at_) (L.getD b []) with
  | some l => (true, L.set b l)
  | none => (false, L)
def gone (from_ to turn : Nat) (e : En) : Bool := decide (from_ < to) && decide (e.at_ < to) && decide (from_ < e.at_ + e.sec) && decide (e.turn < turn)
def mPurge (L : List (List En)) (from_ to turn : Nat) : Nat × List (List En) :=
  ((L.map fun l => (l.filter (gone from_ to turn)).length).sum, L.map fun l => l.filter fun e => !gone from_ to turn e)
end Go.Proofs.Ythekkddmbomimaa
