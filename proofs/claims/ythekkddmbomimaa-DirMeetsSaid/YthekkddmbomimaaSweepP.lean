/- The plain law of DirSweeps, and the contracts of the calls that it makes. Conditions: named at each. -/
import Derived.Test.YthekkddmbomimaaFullP
namespace Go.Proofs.Ythekkddmbomimaa
open Go.RowKit
set_option maxRecDepth 100000

def elders (u : Nat) (L : List (List En)) : Nat := (L.flatten.filter fun e => decide (e.turn < u)).length
theorem elders_set (u : Nat) : ∀ (L : List (List En)) (b : Nat) (X : List En), b < L.length → elders u (L.set b X) + ((L.getD b []).filter fun e => decide (e.turn < u)).length = elders u L + (X.filter fun e => decide (e.turn < u)).length
  | [], b, X, h => by simp at h
  | l :: L, 0, X, _ => by simp [elders]; omega
  | l :: L, b + 1, X, h => by
    have := elders_set u L b X (by simpa using h)
    simp [elders] at this ⊢; omega
structure Sw (T : List Nat) (i : Nat) (L : List (List En)) : Prop where
  len : L.length = 64
  room : ∀ b, (L.getD b []).length ≤ i / 7 + (if b < i % 7 then 1 else 0)
  near : ∀ l ∈ L, ∀ e ∈ l, e.at_ < 1000 ∧ e.sec = 2
  all : L.flatten.length = i
  old : ∀ u : Nat, elders u L = ((T.take i).filter fun x => decide (x < u)).length
theorem Sw.zero (T : List Nat) : Sw T 0 (List.replicate 64 []) := by
  refine ⟨by simp, fun b => ?_, fun l hl e he => ?_, by simp, fun u => by simp [elders]⟩
  · rw [List.getD_eq_getElem?_getD, List.getElem?_replicate]; split <;> simp
  · obtain rfl : l = [] := (List.mem_replicate.1 hl).2
    cases he
theorem Sw.step {T : List Nat} {i x t : Nat} {L : List (List En)} (h : Sw T i L) (hx : T[i]? = some x) (hi : i < 30) : Sw T (i + 1) (L.set (i % 7) (L.getD (i % 7) [] ++ [⟨t, i, 2, x⟩])) := by
  have hb : i % 7 < L.length := by rw [h.len]; omega
  refine ⟨by rw [List.length_set, h.len], fun b => ?_, fun l hl e he => ?_, ?_, fun u => ?_⟩
  · by_cases hbb : i % 7 = b
    · subst hbb
      rw [getD_set_self' _ _ _ hb, List.length_append, List.length_singleton]
      have := h.room (i % 7)
      rw [if_neg (by omega)] at this
      split <;> omega
    · rw [getD_set_other _ _ _ _ hbb]
      have := h.room b
      by_cases h1 : b < i % 7
      · rw [if_pos h1] at this; split <;> omega
      · rw [if_neg h1] at this; split <;> omega
  · rcases List.mem_or_eq_of_mem_set hl with h1 | h1
    · exact h.near l h1 e he
    · subst h1
      rcases List.mem_append.1 he with h2 | h2
      · have : L.getD (i % 7) [] ∈ L := by
          rw [List.getD_eq_getElem?_getD, List.getElem?_eq_getElem hb]; exact List.getElem_mem hb
        exact h.near _ this e h2
      · obtain rfl : e = ⟨t, i, 2, x⟩ := by simpa using h2
        exact ⟨by show i < 1000; omega, rfl⟩
  · have := flatten_set L (i % 7) (L.getD (i % 7) [] ++ [⟨t, i, 2, x⟩]) hb
    rw [List.length_append, List.length_singleton, h.all] at this; omega
  · have := elders_set u L (i % 7) (L.getD (i % 7) [] ++ [⟨t, i, 2, x⟩]) hb
    rw [List.filter_append, List.length_append, h.old u] at this
    rw [List.take_add_one, hx, Option.toList_some, List.filter_append, List.length_append]
    have e1 : (([(⟨t, i, 2, x⟩ : En)]).filter fun e => decide (e.turn < u)).length = ([x].filter fun x => decide (x < u)).length := by
      by_cases hxu : x < u <;> simp [hxu]
    omega
theorem sw_ins {W : World} {p pl pn : Nat} {L : List (List En)} {T : List Nat} {i x : Nat} (hD : DirAt W p pl pn 16 L) (hs : Sw T i L) (hx : T[i]? = some x) (hx2 : x < 256) (hi : i < 30) :
    Calls Try.prog 17 #[.pointer (some ⟨p, 0, none⟩), .agg (keyK i).toArray, .int .u32 i, .int .u16 2, .int .u64 x] W fun e w' =>
      ∃ L', e = .returned (.int .i64 0) ∧ DirAt w' p pl pn 16 L' ∧ Sw T (i + 1) L' ∧ Keeps (fun k => k = pl ∨ k = pn) W w' := by
  have h := Insert_dir hD (key_is i (by omega)) i 2 x (by omega) (by omega) (by omega)
  have e7 : i % 7 % L.length = i % 7 := Nat.mod_eq_of_lt (by rw [hs.len]; omega)
  rw [e7] at h
  have hr := hs.room (i % 7)
  rw [if_neg (by omega)] at hr
  have e : mIns 16 L (i % 7) (i / 16 % 4) i 2 x = (0, L.set (i % 7) (L.getD (i % 7) [] ++ [⟨i / 16 % 4, i, 2, x⟩])) := by
    unfold mIns
    rw [if_neg (by omega), if_neg (by omega)]
  rw [e] at h
  exact h.mono fun e w' ⟨h1, h2, h3⟩ => ⟨_, h1, h2, hs.step hx hi, h3⟩

theorem sum_zero : ∀ L : List (List En), (L.map fun _ => 0).sum = 0
  | [] => rfl
  | _ :: L => by simp [sum_zero L]
theorem purge_none {L : List (List En)} {f to u : Nat} (h : ∀ l ∈ L, ∀ e ∈ l, gone f to u e = false) : mPurge L f to u = (0, L) := by
  unfold mPurge
  have e1 : (L.map fun l => l.filter fun e => !gone f to u e) = L := by
    refine (List.map_congr_left (fun l hl => ?_)).trans (List.map_id L)
    exact List.filter_eq_self.2 (fun e he => by simp [h l hl e he])
  have e2 : (L.map fun l => (l.filter (gone f to u)).length) = L.map fun _ => 0 := List.map_congr_left (fun l hl => by
    have : l.filter (gone f to u) = [] := List.filter_eq_nil_iff.2 (fun e he => by simp [h l hl e he])
    rw [this]; rfl)
  rw [e1, e2]
  rw [sum_zero]
theorem sum_filter (g : En → Bool) : ∀ L : List (List En), (L.map fun l => (l.filter g).length).sum = (L.flatten.filter g).length
  | [] => rfl
  | l :: L => by simp [sum_filter g L]
theorem sw_purge0 {W : World} {p pl pn : Nat} {L : List (List En)} {f to u : Nat} (hD : DirAt W p pl pn 16 L) (hft : to ≤ f) (hf : f < 4294967296) (hto : to < 4294967296) (hu : u < 18446744073709551616) :
    Calls Try.prog 26 #[.pointer (some ⟨p, 0, none⟩), .int .u32 f, .int .u32 to, .int .u64 u] W fun e w' => e = .returned (.int .i64 0) ∧ DirAt w' p pl pn 16 L ∧ Keeps (fun k => k = pl ∨ k = pn) W w' := by
  have h := Purge_dir hD f to u hf hto hu
  rw [purge_none (fun l _ e _ => by unfold gone; rw [decide_eq_false (by omega)]; rfl)] at h
  exact h
theorem filter_two (g : En → Bool) : ∀ l : List En, (l.filter g).length + (l.filter fun e => !g e).length = l.length
  | [] => rfl
  | x :: l => by
    have := filter_two g l
    cases h : g x <;> simp [h] <;> omega
theorem sw_purge1 {W : World} {p pl pn : Nat} {L : List (List En)} {T : List Nat} {u : Nat} (hD : DirAt W p pl pn 16 L) (hs : Sw T T.length L) (hu : u < 256) :
    Calls Try.prog 26 #[.pointer (some ⟨p, 0, none⟩), .int .u32 0, .int .u32 1000, .int .u64 u] W fun e w' => ∃ L', e = .returned (.int .i64 ((T.filter fun x => decide (x < u)).length : Nat)) ∧ DirAt w' p pl pn 16 L' ∧ Keeps (fun k => k = pl ∨ k = pn) W w' ∧
      L'.flatten.length = T.length - (T.filter fun x => decide (x < u)).length ∧ ∀ l ∈ L', ∀ e ∈ l, gone 0 1000 u e = false := by
  have h := Purge_dir hD 0 1000 u (by omega) (by omega) (by omega)
  have hg : ∀ l ∈ L, ∀ e ∈ l, gone 0 1000 u e = decide (e.turn < u) := fun l hl e he => by
    obtain ⟨h1, h2⟩ := hs.near l hl e he
    unfold gone
    rw [decide_eq_true (show 0 < 1000 by omega), decide_eq_true h1, decide_eq_true (show 0 < e.at_ + e.sec by omega)]; simp
  have e1 : (L.map fun l => (l.filter (gone 0 1000 u)).length).sum = (T.filter fun x => decide (x < u)).length := by
    rw [sum_filter]
    have := hs.old u
    rw [List.take_length] at this
    rw [← this]
    unfold elders
    congr 1
    exact List.filter_congr (fun e he => by
      obtain ⟨l, hl, he2⟩ := List.mem_flatten.1 he
      exact hg l hl e he2)
  have e2 : (L.map fun l => l.filter fun e => !gone 0 1000 u e).flatten.length = T.length - (T.filter fun x => decide (x < u)).length := by
    have h3 := filter_two (gone 0 1000 u) L.flatten
    rw [← sum_filter, e1, hs.all] at h3
    rw [← List.filter_flatten]; omega
  refine h.mono fun e w' ⟨h1, h2, h3⟩ => ⟨_, ?_, h2, h3, e2, fun l hl e he => ?_⟩
  · rw [h1, ← e1]; rfl
  · obtain ⟨l0, _, rfl⟩ := List.mem_map.1 hl
    have := (List.mem_filter.1 he).2
    simpa using this
theorem sw_purge2 {W : World} {p pl pn : Nat} {L : List (List En)} {u : Nat} (hD : DirAt W p pl pn 16 L) (hu : u < 256) (hg : ∀ l ∈ L, ∀ e ∈ l, gone 0 1000 u e = false) :
    Calls Try.prog 26 #[.pointer (some ⟨p, 0, none⟩), .int .u32 0, .int .u32 1000, .int .u64 u] W fun e w' => e = .returned (.int .i64 0) ∧ Keeps (fun k => k = pl ∨ k = pn) W w' := by
  have h := Purge_dir hD 0 1000 u (by omega) (by omega) (by omega)
  rw [purge_none hg] at h
  exact h.mono fun e w' ⟨h1, _, h3⟩ => ⟨h1, h3⟩
end Go.Proofs.Ythekkddmbomimaa
