/- Plain: a token read alone from its own stretch of a text is that token; gaps. -/
import Derived.Test.YtfamljigcffngaaGreatDoorLexPlain
namespace Go.Proofs.YtfamljigcffngaaGreatDoor.Plx
open Go Go.Lib

/-! ### cuts beside a low byte -/
theorem low_tail (c : UInt8) (r : List UInt8) (hc : c.toNat < 128) : ∀ (n : Nat) (u : List UInt8), u.length ≤ n → Pch.textsL (u ++ c :: r) = true → Pch.textsL (c :: r) = true
  | _, [], _, h => h
  | 0, a :: u, hn, _ => by simp at hn
  | n + 1, a :: u, hn, h => by
    have hl : 0 < (a :: u).length := by simp
    unfold Pch.textsL at h
    rw [Pch.runes_step _ (show a :: u ++ c :: r ≠ [] by simp), List.all_cons, Bool.and_eq_true] at h
    have hw := decodeL_width (a :: u ++ c :: r)
    by_cases hk : (decodeL (a :: u ++ c :: r)).2 ≤ (a :: u).length
    · have h2 := h.2
      rw [List.drop_append_of_le_length hk] at h2
      exact low_tail c r hc n _ (by rw [List.length_drop]; simp only [List.length_cons] at hn ⊢; omega) h2
    · exfalso
      have hk' : (a :: u).length < (decodeL (a :: u ++ c :: r)).2 := by omega
      rw [decodeL_N] at hk'
      obtain ⟨x1, x2, x3, x4⟩ := Pch.decodeN_cross (a :: u).length _ _ _ _ _ hl hk'
      have g : ∀ i, i = (a :: u).length → (a :: u ++ c :: r).getD i 0 = c := by
        intro i hi
        subst hi
        simp [List.getD]
      have hx : c.toNat / 64 = 2 := by
        by_cases q1 : (a :: u).length = 1
        · rw [← g 1 q1.symm]; exact x1 q1
        · by_cases q2 : (a :: u).length = 2
          · rw [← g 2 q2.symm]; exact x2 q2
          · rw [← g 3 (by omega)]; exact x3 (by omega)
      omega
theorem texts_low (c : UInt8) (r : List UInt8) (hc : c.toNat < 128) (h : Pch.textsL (c :: r) = true) : Pch.textsL r = true := by
  unfold Pch.textsL at h ⊢
  rw [Pch.runes_step _ (by simp), Pch.decode_low c r hc, List.all_cons, Bool.and_eq_true] at h
  exact h.2
/-- behind a low byte a text goes on as a text -/
theorem low_behind (l : List UInt8) (n : Nat) (c : UInt8) (hn : 1 ≤ n) (hl : l[n - 1]? = some c) (hc : c.toNat < 128) (h : Pch.textsL l = true) : Pch.textsL (l.drop n) = true := by
  have hlt := (List.getElem?_eq_some_iff.1 hl).1
  have e : l = l.take (n - 1) ++ c :: l.drop n := by
    have h1 := List.take_append_drop (n - 1) l
    rw [List.drop_eq_getElem_cons hlt, (List.getElem?_eq_some_iff.1 hl).2, show n - 1 + 1 = n by omega] at h1
    exact h1.symm
  rw [e] at h
  exact texts_low c _ hc (low_tail c _ hc _ _ (Nat.le_refl _) h)
theorem texts_take (l : List UInt8) (n : Nat) (h : Pch.textsL l = true) (hd : Pch.textsL (l.drop n) = true) : Pch.textsL (l.take n) = true := by
  have := Pch.texts_right (l.take n) (l.drop n) hd
  rw [List.take_append_drop, h] at this
  exact this.symm
theorem runes_split (l : List UInt8) (n : Nat) (h : Pch.textsL l = true) (hd : Pch.textsL (l.drop n) = true) : Pch.runes l = Pch.runes (l.take n) ++ Pch.runes (l.drop n) := by
  have := Pch.runes_app _ (l.take n) (l.drop n) (Nat.le_refl _) (Pch.ok_of_texts (texts_take l n h hd))
  rwa [List.take_append_drop] at this
/-! ### names -/
theorem nameR_pre : ∀ (b : Bool) (ps qs : List (Nat × Nat)), nameR b (ps ++ qs) ≤ widths ps → (∀ p ∈ ps ++ qs, 1 ≤ p.2) → nameR b ps = nameR b (ps ++ qs)
  | b, [], qs, h, _ => by
    rw [List.nil_append] at h ⊢
    unfold widths at h
    rw [Nat.le_zero.1 h]
    cases b <;> rfl
  | b, p :: ps, qs, h, hq => by
    rw [List.cons_append] at h ⊢
    unfold nameR at h ⊢
    split
    · rename_i hb
      rw [if_pos hb] at h
      unfold widths at h
      rw [nameR_pre false ps qs (by omega) (fun x hx => hq x (by rw [List.cons_append]; exact .tail _ hx))]
    · rfl
theorem runes_pos : ∀ (n : Nat) (l : List UInt8), l.length ≤ n → ∀ p ∈ Pch.runes l, 1 ≤ p.2
  | _, [], _, p, hp => by simp [Pch.runes_nil] at hp
  | 0, c :: l, h, _, _ => by simp at h
  | n + 1, c :: l, h, p, hp => by
    have hw := decodeL_width (c :: l)
    rw [Pch.runes_step _ (by simp)] at hp
    rcases List.mem_cons.1 hp with rfl | hp
    · exact hw
    · exact runes_pos n _ (by rw [List.length_drop]; simp only [List.length_cons] at h ⊢; omega) p hp
theorem widths_all : ∀ (n : Nat) (l : List UInt8), l.length ≤ n → widths (Pch.runes l) = l.length
  | _, [], _ => by simp [Pch.runes_nil, widths]
  | 0, c :: l, h => by simp at h
  | n + 1, c :: l, h => by
    have hne : c :: l ≠ [] := by simp
    have hle := decodeL_le (c :: l) hne
    have hw := decodeL_width (c :: l)
    rw [Pch.runes_step _ hne, widths, widths_all n _ (by rw [List.length_drop]; simp only [List.length_cons] at h ⊢; omega), List.length_drop]
    omega
theorem nameN_take (l : List UInt8) (n : Nat) (h : Pch.textsL l = true) (hd : Pch.textsL (l.drop n) = true) (hn : nameN l ≤ n) : nameN (l.take n) = nameN l := by
  unfold nameN at hn ⊢
  have hle := widths_le _ l (Nat.le_refl _)
  have hle2 := nameR_le true (Pch.runes l)
  have hp := runes_pos _ l (Nat.le_refl _)
  have hw := widths_all _ (l.take n) (Nat.le_refl _)
  rw [List.length_take] at hw
  rw [runes_split l n h hd] at hn hp hle hle2 ⊢
  exact nameR_pre true _ _ (by omega) hp
/-! ### numbers -/
theorem digN_take (l : List UInt8) (n : Nat) (hn : digN l ≤ n) : digN (l.take n) = digN l := by
  unfold digN at hn ⊢
  induction l generalizing n with
  | nil => simp
  | cons c l ih =>
    rw [List.takeWhile_cons] at hn ⊢
    split at hn
    · rename_i hc
      simp only [List.length_cons] at hn
      obtain ⟨m, rfl⟩ : ∃ m, n = m + 1 := ⟨n - 1, by omega⟩
      rw [List.take_succ_cons, List.takeWhile_cons_of_pos hc, if_pos hc]
      simp only [List.length_cons]
      rw [ih m (by omega)]
    · rename_i hc
      rw [if_neg hc]
      cases n with
      | zero => simp
      | succ n => rw [List.take_succ_cons, List.takeWhile_cons_of_neg hc]
theorem wholeL_take (l : List UInt8) (n : Nat) (x : Tok × Nat) (h : Pch.textsL (l.drop (digN l)) = true) (hd : Pch.textsL (l.drop n) = true) (hx : wholeL l = .ok x) (hn : x.2 ≤ n) : wholeL (l.take n) = .ok x := by
  unfold wholeL at hx
  split at hx
  · cases hx
  · rename_i h0
    split at hx
    · rename_i v hv
      cases hx
      dsimp only at hn
      have e1 := digN_take l n hn
      unfold wholeL
      rw [e1]
      have e2 : (l.take n).drop (digN l) = (l.drop (digN l)).take (n - digN l) := by rw [List.drop_take]
      have e3 : (l.take n).take (digN l) = l.take (digN l) := by rw [List.take_take, Nat.min_eq_left hn]
      have hz : nameN (l.drop (digN l)) = 0 := by omega
      have e4 := nameN_take (l.drop (digN l)) (n - digN l) h (by rw [List.drop_drop, show digN l + (n - digN l) = n by omega]; exact hd) (by omega)
      rw [e2, e3, e4, hz, if_neg (by simp), hv]
    · cases hx
/-! ### strings -/
theorem quo_take (q : UInt8) : ∀ (l : List UInt8) (x : List UInt8 × Nat) (n : Nat), quo q l = some x → x.2 ≤ n → quo q (l.take n) = some x
  | [], x, n, h, _ => by simp [quo] at h
  | [c], x, n, h, hn => by
    have := quo_le q [c] x h
    obtain ⟨m, rfl⟩ : ∃ m, n = m + 1 := ⟨n - 1, by omega⟩
    rw [List.take_succ_cons, List.take_nil]
    exact h
  | c :: d :: r, x, n, h, hn => by
    have hle := quo_le q (c :: d :: r) x h
    obtain ⟨m, rfl⟩ : ∃ m, n = m + 1 := ⟨n - 1, by omega⟩
    rw [List.take_succ_cons]
    by_cases hc : c = q
    · subst hc
      by_cases hd : d = c
      · subst hd
        rw [quo_two] at h
        obtain ⟨y, hy, rfl⟩ := Option.map_eq_some_iff.1 h
        dsimp only at hn
        obtain ⟨k, rfl⟩ : ∃ k, m = k + 1 := ⟨m - 1, by omega⟩
        rw [List.take_succ_cons, quo_two, quo_take d r y k hy (by omega)]
        rfl
      · rw [quo_end c d r hd] at h
        cases h
        cases m with
        | zero => rw [List.take_zero, quo_last]
        | succ m => rw [List.take_succ_cons, quo_end c d _ hd]
    · rw [quo_other q c _ hc] at h ⊢
      obtain ⟨y, hy, rfl⟩ := Option.map_eq_some_iff.1 h
      dsimp only at hn
      rw [quo_take q (d :: r) y m hy (by omega)]
      rfl
/-- where a string ends stands its quote -/
theorem quo_last_byte (q : UInt8) : ∀ (l : List UInt8) (x : List UInt8 × Nat), quo q l = some x → l[x.2 - 1]? = some q
  | [], x, h => by simp [quo] at h
  | [c], x, h => by
    unfold quo at h
    split at h
    · rename_i hc
      cases h
      simp [hc]
    · cases h
  | c :: d :: r, x, h => by
    by_cases hc : c = q
    · subst hc
      by_cases hd : d = c
      · subst hd
        rw [quo_two] at h
        obtain ⟨y, hy, rfl⟩ := Option.map_eq_some_iff.1 h
        have := quo_le d r y hy
        rw [show y.2 + 2 - 1 = (y.2 - 1) + 2 by omega]
        exact quo_last_byte d r y hy
      · rw [quo_end c d r hd] at h
        cases h
        rfl
    · rw [quo_other q c _ hc] at h
      obtain ⟨y, hy, rfl⟩ := Option.map_eq_some_iff.1 h
      have := quo_le q _ y hy
      rw [show y.2 + 1 - 1 = (y.2 - 1) + 1 by omega]
      exact quo_last_byte q (d :: r) y hy
/-! ### signs -/
theorem prefix_take (l s : List UInt8) (n : Nat) (hs : s.length ≤ n) : Lib.hasPrefix (l.take n) s = Lib.hasPrefix l s := by
  unfold Lib.hasPrefix
  rw [Bool.eq_iff_iff, List.isPrefixOf_iff_prefix, List.isPrefixOf_iff_prefix, List.prefix_take_iff]
  exact ⟨fun h => h.1, fun h => ⟨h, hs⟩⟩
theorem prefix_take_le (l s : List UInt8) (n : Nat) (h : Lib.hasPrefix (l.take n) s = true) : Lib.hasPrefix l s = true := by
  unfold Lib.hasPrefix at h ⊢
  rw [List.isPrefixOf_iff_prefix] at h ⊢
  exact h.trans (List.take_prefix n l)
theorem find_take (l s : List UInt8) (n : Nat) (hs : s.length ≤ n) : ∀ (L : List (List UInt8)), L.find? (fun s => Lib.hasPrefix l s) = some s → L.find? (fun s => Lib.hasPrefix (l.take n) s) = some s
  | [], h => by cases h
  | a :: L, h => by
    rw [List.find?_cons] at h ⊢
    cases ha : Lib.hasPrefix l a with
    | true =>
      rw [ha] at h
      cases h
      rw [prefix_take l s n hs, ha]
    | false =>
      rw [ha] at h
      have : Lib.hasPrefix (l.take n) a = false := by
        cases hb : Lib.hasPrefix (l.take n) a with
        | false => rfl
        | true => rw [prefix_take_le l a n hb] at ha; cases ha
      rw [this]
      exact find_take l s n hs L h
theorem signAt_take (l s : List UInt8) (n : Nat) (h : signAt l = some s) (hs : s.length ≤ n) : signAt (l.take n) = some s := find_take l s n hs _ h
theorem signR_take (l : List UInt8) (n : Nat) (x : Tok × Nat) (hx : signR l = .ok x) (hn : x.2 ≤ n) : signR (l.take n) = .ok x := by
  unfold signR at hx ⊢
  split at hx
  · rename_i s hs
    cases hx
    rw [signAt_take l s n hs hn]
  · cases hx
/-! ### words -/
theorem wordR_take (A K : Nat) (hA : A ≤ 1) (l : List UInt8) (n : Nat) (x : Tok × Nat) (h : Pch.textsL (l.drop A) = true) (hd : Pch.textsL (l.drop n) = true) (hx : wordR A K l = .ok x) (hn : x.2 ≤ n) (h1 : 1 ≤ n) : wordR A K (l.take n) = .ok x := by
  have e2 : (l.take n).drop A = (l.drop A).take (n - A) := by rw [List.drop_take]
  have hd' : Pch.textsL ((l.drop A).drop (n - A)) = true := by rw [List.drop_drop, show A + (n - A) = n by omega]; exact hd
  unfold wordR at hx
  split at hx
  · cases hx
  · rename_i g1
    split at hx
    · rename_i g2
      cases hx
      dsimp only at hn
      unfold wordR
      rw [e2, nameN_take _ _ h hd' (by omega), if_neg g1, if_pos g2, List.take_take, Nat.min_eq_left (by omega)]
    · rename_i g2
      unfold wordR
      rw [e2, nameN_take _ _ h hd' (by omega), if_neg g1, if_neg g2]
      exact signR_take l n x hx hn
end Go.Proofs.YtfamljigcffngaaGreatDoor.Plx
