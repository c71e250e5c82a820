/- The plain law of DirFull, and the contracts of the calls that it makes. Conditions: named at each. -/
import Derived.Test.YthekkddmbomimaaFrame
namespace Go.Proofs.Ythekkddmbomimaa
open Go.RowKit
set_option maxRecDepth 100000

def Full (t c : Nat) : List En := (List.range c).map fun j => (⟨t, j, 1, 1⟩ : En)
theorem Full_length (t c : Nat) : (Full t c).length = c := by simp [Full]
theorem Full_snoc (t c : Nat) : Full t c ++ [⟨t, c, 1, 1⟩] = Full t (c + 1) := by simp [Full, List.range_succ]
def Lc (b t c : Nat) : List (List En) := (List.replicate 7 []).set b (Full t c)
theorem Lc_length (b t c : Nat) : (Lc b t c).length = 7 := by simp [Lc]
theorem getD_set_self' (L : List (List En)) (b : Nat) (X : List En) (h : b < L.length) : (L.set b X).getD b [] = X := by
  rw [List.getD_eq_getElem?_getD, List.getElem?_set_self h]; rfl
theorem getD_set_other (L : List (List En)) (b c : Nat) (X : List En) (h : b ≠ c) : (L.set b X).getD c [] = L.getD c [] := by
  rw [List.getD_eq_getElem?_getD, List.getElem?_set_ne h, ← List.getD_eq_getElem?_getD]
theorem Lc_at (b t c : Nat) (h : b < 7) : (Lc b t c).getD b [] = Full t c := getD_set_self' _ _ _ (by simpa using h)
theorem Lc_other (b t c b2 : Nat) (h : b ≠ b2) : (Lc b t c).getD b2 [] = [] := by
  unfold Lc
  rw [getD_set_other _ _ _ _ h, List.getD_eq_getElem?_getD]
  rcases Nat.lt_or_ge b2 7 with h1 | h1
  · rw [List.getElem?_replicate, if_pos h1]; rfl
  · rw [List.getElem?_replicate, if_neg (by omega)]; rfl
theorem flatten_set : ∀ (L : List (List En)) (b : Nat) (X : List En), b < L.length → (L.set b X).flatten.length + (L.getD b []).length = L.flatten.length + X.length
  | [], b, X, h => by simp at h
  | l :: L, 0, X, _ => by simp; omega
  | l :: L, b + 1, X, h => by
    have := flatten_set L b X (by simpa using h)
    simp at this ⊢; omega
theorem Lc_flat (b t c : Nat) (h : b < 7) : (Lc b t c).flatten.length = c := by
  have := flatten_set (List.replicate 7 []) b (Full t c) (by simpa using h)
  have e0 : (List.replicate 7 ([] : List En)).getD b [] = [] := by
    rw [List.getD_eq_getElem?_getD, List.getElem?_replicate, if_pos h]; rfl
  have e1 : (List.replicate 7 ([] : List En)).flatten.length = 0 := by simp
  rw [e0, e1, Full_length] at this
  unfold Lc; simpa using this

theorem full_ins {W : World} {p pl pn m b t n i : Nat} {ks : List Value} (hD : DirAt W p pl pn m (Lc b t (min i m))) (hk : IsKey ks n t) (hb : n % 7 = b) (hi : i < 24) :
    Calls Try.prog 17 #[.pointer (some ⟨p, 0, none⟩), .agg ks.toArray, .int .u32 i, .int .u16 1, .int .u64 1] W fun e w' =>
      e = .returned (.int .i64 (if i < m then 0 else 50)) ∧ DirAt w' p pl pn m (Lc b t (min (i + 1) m)) ∧ Keeps (fun k => k = pl ∨ k = pn) W w' := by
  have hb7 : b < 7 := by omega
  have h := Insert_dir hD hk i 1 1 (by omega) (by omega) (by omega)
  rw [Lc_length, hb] at h
  have e : mIns m (Lc b t (min i m)) b t i 1 1 = (if i < m then 0 else 50, Lc b t (min (i + 1) m)) := by
    unfold mIns
    rw [if_neg (by omega), Lc_at _ _ _ hb7, Full_length]
    by_cases him : i < m
    · rw [if_neg (by omega), if_pos him, Nat.min_eq_left (by omega), Nat.min_eq_left (by omega), Full_snoc]
      unfold Lc; rw [List.set_set]
    · rw [if_pos (by omega), if_neg him, Nat.min_eq_right (by omega), Nat.min_eq_right (by omega)]
  rw [e] at h
  exact h
theorem full_other {W : World} {p pl pn m b t c n2 t2 b2 : Nat} {ks : List Value} (hD : DirAt W p pl pn m (Lc b t c)) (hk : IsKey ks n2 t2) (hb : n2 % 7 = b2) (hne : b ≠ b2) :
    Calls Try.prog 17 #[.pointer (some ⟨p, 0, none⟩), .agg ks.toArray, .int .u32 99, .int .u16 1, .int .u64 1] W fun e w' =>
      e = .returned (.int .i64 0) ∧ DirAt w' p pl pn m ((Lc b t c).set b2 [⟨t2, 99, 1, 1⟩]) ∧ Keeps (fun k => k = pl ∨ k = pn) W w' := by
  have h := Insert_dir hD hk 99 1 1 (by omega) (by omega) (by omega)
  rw [Lc_length, hb] at h
  have e : mIns m (Lc b t c) b2 t2 99 1 1 = (0, (Lc b t c).set b2 [⟨t2, 99, 1, 1⟩]) := by
    unfold mIns
    have := hD.s1
    rw [if_neg (by omega), Lc_other _ _ _ _ hne, if_neg (by simp; omega)]; rfl
  rw [e] at h
  exact h
theorem full_del {W : World} {p pl pn m b t n b2 : Nat} {x : En} {ks : List Value} (hD : DirAt W p pl pn m ((Lc b t m).set b2 [x])) (hk : IsKey ks n t) (hb : n % 7 = b) (hne : b ≠ b2) :
    Calls Try.prog 19 #[.pointer (some ⟨p, 0, none⟩), .agg ks.toArray, .int .u32 0] W fun e w' =>
      e = .returned (.bool true) ∧ DirAt w' p pl pn m (((Lc b t m).set b2 [x]).set b ((Full t m).eraseIdx 0)) ∧ Keeps (fun k => k = pl ∨ k = pn) W w' := by
  have hb7 : b < 7 := by omega
  have hm := hD.s1
  have hg : ((Lc b t m).set b2 [x]).getD b [] = Full t m := by rw [getD_set_other _ _ _ _ (Ne.symm hne), Lc_at _ _ _ hb7]
  have hl : ((Lc b t m).set b2 [x])[b]? = some (Full t m) := by
    have hlt : b < ((Lc b t m).set b2 [x]).length := by rw [List.length_set, Lc_length]; exact hb7
    rw [List.getD_eq_getElem?_getD] at hg
    rw [List.getElem?_eq_getElem hlt] at hg ⊢
    exact congrArg some hg
  have h := Del_dir hD hk 0 b (by rw [List.length_set, Lc_length]; exact hb) (Full t m) hl
  have e : mDel ((Lc b t m).set b2 [x]) b t 0 = (true, ((Lc b t m).set b2 [x]).set b ((Full t m).eraseIdx 0)) := by
    unfold mDel
    rw [hg, delLast_some (j := 0) (e := ⟨t, 0, 1, 1⟩) (by rw [Full, List.getElem?_map, List.getElem?_range (by omega)]; rfl) (by simp) (fun k e' hk' he' => by
      have hk2 : k < m := by have := (List.getElem?_eq_some_iff.1 he').1; rwa [Full_length] at this
      have : e' = ⟨t, k, 1, 1⟩ := by
        rw [Full, List.getElem?_map, List.getElem?_range hk2] at he'
        exact (Option.some.inj he').symm
      subst this
      simp; omega)]
  rw [e] at h
  exact h
theorem full_again {W : World} {p pl pn m b t n b2 : Nat} {x : En} {ks : List Value} (hD : DirAt W p pl pn m (((Lc b t m).set b2 [x]).set b ((Full t m).eraseIdx 0))) (hk : IsKey ks n t) (hb : n % 7 = b) :
    Calls Try.prog 17 #[.pointer (some ⟨p, 0, none⟩), .agg ks.toArray, .int .u32 77, .int .u16 1, .int .u64 1] W fun e w' =>
      e = .returned (.int .i64 0) ∧ DirAt w' p pl pn m (((Lc b t m).set b2 [x]).set b ((Full t m).eraseIdx 0 ++ [⟨t, 77, 1, 1⟩])) ∧ Keeps (fun k => k = pl ∨ k = pn) W w' := by
  have hb7 : b < 7 := by omega
  have hm := hD.s1
  have h := Insert_dir hD hk 77 1 1 (by omega) (by omega) (by omega)
  rw [List.length_set, List.length_set, Lc_length, hb] at h
  have e : mIns m (((Lc b t m).set b2 [x]).set b ((Full t m).eraseIdx 0)) b t 77 1 1 = (0, ((Lc b t m).set b2 [x]).set b ((Full t m).eraseIdx 0 ++ [⟨t, 77, 1, 1⟩])) := by
    unfold mIns
    rw [if_neg (by omega), getD_set_self' _ _ _ (by rw [List.length_set, Lc_length]; exact hb7), if_neg (by rw [List.length_eraseIdx, Full_length, if_pos (by omega)]; omega), List.set_set]
  rw [e] at h
  exact h
theorem full_len1 {W : World} {p pl pn m b t c b2 : Nat} {x : En} (hD : DirAt W p pl pn m ((Lc b t c).set b2 [x])) (hb7 : b < 7) (hb2 : b2 < 7) (hne : b ≠ b2) :
    Calls Try.prog 20 #[.pointer (some ⟨p, 0, none⟩)] W fun e w' => e = .returned (.int .i64 ((c + 1 : Nat) : Int)) ∧ Keeps (fun _ => False) W w' := by
  refine Len_dir hD (c + 1) ?_
  have := flatten_set (Lc b t c) b2 [x] (by rw [Lc_length]; exact hb2)
  rw [Lc_other _ _ _ _ hne, Lc_flat _ _ _ hb7] at this
  simpa using this
theorem full_len2 {W : World} {p pl pn m b t b2 : Nat} {x y : En} (hD : DirAt W p pl pn m (((Lc b t m).set b2 [x]).set b ((Full t m).eraseIdx 0 ++ [y]))) (hb7 : b < 7) (hb2 : b2 < 7) (hne : b ≠ b2) :
    Calls Try.prog 20 #[.pointer (some ⟨p, 0, none⟩)] W fun e w' => e = .returned (.int .i64 ((m + 1 : Nat) : Int)) ∧ Keeps (fun _ => False) W w' := by
  refine Len_dir hD (m + 1) ?_
  have hm := hD.s1
  have h1 := flatten_set (Lc b t m) b2 [x] (by rw [Lc_length]; exact hb2)
  rw [Lc_other _ _ _ _ hne, Lc_flat _ _ _ hb7] at h1
  have h2 := flatten_set ((Lc b t m).set b2 [x]) b ((Full t m).eraseIdx 0 ++ [y]) (by rw [List.length_set, Lc_length]; exact hb7)
  rw [getD_set_other _ _ _ _ (Ne.symm hne), Lc_at _ _ _ hb7, Full_length, List.length_append, List.length_eraseIdx, Full_length, if_pos (by omega)] at h2
  simp only [List.length_nil, List.length_singleton] at h1 h2
  omega
end Go.Proofs.Ythekkddmbomimaa
