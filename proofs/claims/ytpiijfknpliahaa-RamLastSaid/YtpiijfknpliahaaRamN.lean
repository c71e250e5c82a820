/- A new entry; out as one contract; room where there is room. Conditions: named at each. -/
import Derived.Test.YtpiijfknpliahaaRamH
import Derived.Test.YtpiijfknpliahaaRamI
import Derived.Carry
namespace Go.Proofs.Ytpiijfknpliahaa
open Go.RowKit
set_option maxRecDepth 100000
attribute [local go_sem] Oper.semAt_some

variable {ro : Nat → Nat} {w w' : World} {r lim used : Nat} {L P X : Ents}
theorem RamAt.addNew {v : Value} {x : It} {w0 : World} (h : RamAt ro w r lim used L P X) (hv : SlO w v 5 1 x.b.length (bytesV x.b)) (hs : w0.heap.size ≤ w.heap.size) (hf : ∀ g, blkOf v = some g → w0.heap.size ≤ g ∧ ro g = 0)
    (h1 : x.hits ≤ 1000) (s1 : x.size ≤ 65600) (b1 : x.b.length ≤ 65536) :
    ∃ ro', RamAt ro' (w.alloc (.cells (entV x v).toArray 65)) r lim used L P ((w.heap.size, x) :: X) ∧ Grow ro ro' w0 := by
  have hk : Keeps (fun _ => False) w (w.alloc (.cells (entV x v).toArray 65)) := Keeps.alloc _ _ _
  have hnew : ro w.heap.size = 0 := by
    by_cases e : ro w.heap.size = 0
    · exact e
    · have := h.lt _ e; omega
  have hold : ∀ b, ro b ≠ 0 → (if b = w.heap.size then 4 else if blkOf v = some b then 5 else ro b) = ro b := fun b hb => by
    have h2 := h.lt b hb
    rw [if_neg (by omega), if_neg (fun e => hb (hf b e).2)]
  obtain ⟨vl, vp, hb, hl, hp, rl, rp⟩ := h.head
  refine ⟨fun b => if b = w.heap.size then 4 else if blkOf v = some b then 5 else ro b, ⟨⟨vl, vp, hb.keeps hk id, hl.keeps hk (fun _ _ h => h), hp.keeps hk (fun _ _ h => h), fun g hg => ?_, fun g hg => ?_⟩, ?_, fun p hpm => ?_, ?_, fun b hb => ?_⟩, ⟨fun b hb => ?_, fun b hb => ?_⟩⟩
  · exact (hold g (by rw [rl g hg]; omega)).trans (rl g hg)
  · exact (hold g (by rw [rp g hg]; omega)).trans (rp g hg)
  · exact (hold r (by rw [h.rr]; omega)).trans h.rr
  · have hcase : p ∈ L ++ P ++ X ∨ p = (w.heap.size, x) := by
      simp only [List.mem_append, List.mem_cons] at hpm ⊢
      rcases hpm with (h1 | h1) | h1 | h1
      · exact .inl (.inl (.inl h1))
      · exact .inl (.inl (.inr h1))
      · exact .inr h1
      · exact .inl (.inr h1)
    rcases hcase with hq | rfl
    · have he := h.ents p hq
      obtain ⟨vb, e1, e2, e3⟩ := he.ex
      exact ⟨⟨vb, e1.keeps hk id, e2.keeps hk (fun _ _ h => h), fun g hg => (hold g (by rw [e3 g hg]; omega)).trans (e3 g hg)⟩, (hold _ (by rw [he.role]; omega)).trans he.role, he.h1, he.s1, he.b1⟩
    · refine ⟨⟨v, Blk.new w (entV x v) 65, hv.keeps hk (fun _ _ h => h), fun g hg => ?_⟩, if_pos rfl, h1, s1, b1⟩
      have := hv.lt hg
      show (if g = w.heap.size then 4 else if blkOf v = some g then 5 else ro g) = 5
      rw [if_neg (by omega), if_pos hg]
  · have hp2 : (L ++ P ++ (w.heap.size, x) :: X).Perm ((w.heap.size, x) :: (L ++ P ++ X)) := List.perm_middle
    rw [(hp2.map _).nodup_iff, List.map_cons, List.nodup_cons]
    refine ⟨fun hm => ?_, h.nodup⟩
    obtain ⟨q, hq, he⟩ := List.mem_map.1 hm
    have := (h.ents q hq).lt
    simp only at he
    omega
  · simp only [World.size_alloc]
    by_cases e : b = w.heap.size
    · omega
    · by_cases e2 : blkOf v = some b
      · have := hv.lt e2; omega
      · have : ro b ≠ 0 := by simpa [e, e2] using hb
        have := h.lt b this; omega
  · show (if b = w.heap.size then 4 else if blkOf v = some b then 5 else ro b) = ro b
    rw [if_neg (by omega), if_neg (fun e => by have := (hf b e).1; omega)]
  · by_cases e : b = w.heap.size
    · right; omega
    · by_cases e2 : blkOf v = some b
      · exact .inr (hf b e2).1
      · left; simpa [e, e2] using hb

def ptrO : Option (Nat × It) → Value
  | some p => .pointer (some ⟨p.1, 0, none⟩)
  | none => .pointer none
structure OutR where
  (o : Option (Nat × It)) (c : Bool) (used : Nat) (L P : Ents)
def mOut (k used : Nat) (L P : Ents) : OutR :=
  match firstAt (hasK k) L with
  | some i => ⟨L[i]?, true, used - (L.getD i default).2.size, L.eraseIdx i, P⟩
  | none => match firstAt (hasK k) P with
    | some i => ⟨P[i]?, false, used, L, P.eraseIdx i⟩
    | none => ⟨none, false, used, L, P⟩
theorem out_any (h : RamAt ro w r lim used L P X) (hn : L.length ≤ 1073741824) (hn2 : P.length ≤ 1073741824) (hu : used ≤ 1073741824) (hsz : ∀ p ∈ L, p.2.size ≤ used) (k : Nat) :
    Calls Try.prog 31 #[.pointer (some ⟨r, 0, none⟩), .agg (keyR k).toArray] w fun e w' => e = .returned (.tuple #[ptrO (mOut k used L P).o, .bool (mOut k used L P).c]) ∧
      RamAt ro w' r lim (mOut k used L P).used (mOut k used L P).L (mOut k used L P).P ((mOut k used L P).o.toList ++ X) ∧ Keeps (fun b => ro b ≠ 0) w w' := by
  unfold mOut
  cases hf : firstAt (hasK k) L with
  | some i =>
    obtain ⟨p, hp, _⟩ := firstAt_get hf
    have hg : L.getD i default = p := by simp [List.getD_eq_getElem?_getD, hp]
    simp only [hp, hg]
    exact out_L h hn k i p hf hp (hsz p (List.mem_of_getElem? hp)) hu
  | none =>
    simp only []
    cases hf2 : firstAt (hasK k) P with
    | some i =>
      obtain ⟨p, hp, _⟩ := firstAt_get hf2
      simp only [hp]
      exact out_P h hn hn2 k i p hf hf2 hp
    | none =>
      refine (out_none h hn hn2 k hf hf2).mono ?_
      rintro e w' ⟨rfl, h2⟩
      exact ⟨rfl, h.below h2, h2.mono (fun _ h => h.elim)⟩

set_option maxHeartbeats 1000000 in
theorem room_easy {p : Nat × It} (h : RamAt ro w r lim used L P (p :: X)) (hl : used + p.2.size ≤ lim) (hlim : lim ≤ 1073741824) :
    Calls Try.prog 35 #[.pointer (some ⟨r, 0, none⟩), .pointer (some ⟨p.1, 0, none⟩)] w fun e w' => e = .returned (.bool true) ∧ Keeps (fun _ => False) w w' := by
  obtain ⟨vl, vp, hd⟩ := h.head
  obtain ⟨vb, hb, _⟩ := (h.ents p (by simp)).ex
  have hmm := @run_makeMap Try.prog
  have d0 : ∀ o, (w.alloc o).drew.cell? ⟨r, 0, none⟩ = some (.int .i64 lim) := fun o => (hd.blk.alloc o).drew.cell (j := 0) rfl
  have d1 : ∀ o, (w.alloc o).drew.cell? ⟨r, 1, none⟩ = some (.int .i64 used) := fun o => (hd.blk.alloc o).drew.cell (j := 1) rfl
  have d2 : ∀ o, (w.alloc o).drew.cell? ⟨p.1, 33, none⟩ = some (.int .i64 p.2.size) := fun o => (hb.alloc o).drew.cell (ent_size p.2 vb)
  have e1 : IntKind.i64.wrap ((used : Int) + p.2.size) = (used : Int) + p.2.size := by rw [IntKind.wrap_i64]; omega
  have e2 : ¬ (lim : Int) < (used : Int) + p.2.size := by omega
  have D0 := Lib.hid d0
  have D1 := Lib.hid d1
  have D2 := Lib.hid d2
  clear h hd hb d0 d1 d2
  go_enter Try.func35, Try.ntmps35
  go_wp2
  go_loopw [6] (fun _ wr => wr = w.alloc (.map #[] 0)) (fun _ _ => 0)
  case atStart => rfl
  case round =>
    subst hrel
    have c0 : (w.alloc (.map #[] 0)).cell? ⟨r, 0, none⟩ = some (.int .i64 lim) := D0.out (.map #[] 0)
    have c1 : (w.alloc (.map #[] 0)).cell? ⟨r, 1, none⟩ = some (.int .i64 used) := D1.out (.map #[] 0)
    have c2 : (w.alloc (.map #[] 0)).cell? ⟨p.1, 33, none⟩ = some (.int .i64 p.2.size) := D2.out (.map #[] 0)
    have hk : Keeps (fun _ => False) w (w.alloc (.map #[] 0)) := Keeps.alloc _ _ _
    generalize w.alloc (.map #[] 0) = w2 at *
    go_wp2
    go_quiet (fail)
    go_wp2
    go_ret
    exact ⟨rfl, hk.trans (Keeps.drewN _ _ _)⟩
end Go.Proofs.Ytpiijfknpliahaa
