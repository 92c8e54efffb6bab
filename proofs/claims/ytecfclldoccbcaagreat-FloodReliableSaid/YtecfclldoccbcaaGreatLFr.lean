/- One that came: what is done with it. -/
import Derived.Test.YtecfclldoccbcaaGreatLFd
set_option maxRecDepth 100000
set_option linter.unusedVariables false
set_option linter.unusedSimpArgs false
open Go Go.Proofs.Fr
namespace Go.Proofs.YtecfclldoccbcaaGreat.F
def heardP (p : Pr) (k : Ky) : Pr := (p.1, p.2.1.filter (fun x => decide (¬ keyK x = k)), p.2.2.1, ())
def ridP (p : Pr) (k : Ky) : Pr := (p.1, p.2.1, p.2.2.1.filter (fun x => decide (¬ keyA x = k)), ())
def owesP (p : Pr) (a : Ad) : Pr := (p.1, p.2.1, p.2.2.1.filter (fun x => decide (¬ keyA x = keyA a)) ++ [a], ())
theorem heard_eq (p : Pr) (k : Ky) (h : p.2.1.length ≤ 10000) : flood_Peer_heard.p (p, k, ()) = some (heardP p k, ()) := by
  unfold flood_Peer_heard.p
  simp only [clonePK _ h, deleteK _ k h, Option.bind_some]
  rfl
theorem rid_eq (p : Pr) (k : Ky) (h : p.2.2.1.length ≤ 10000) : flood_Peer_rid.p (p, k, ()) = some (ridP p k, ()) := by
  unfold flood_Peer_rid.p
  simp only [clone_eq _ h, deleteA _ k h, Option.bind_some]
  rfl
theorem owes_eq (p : Pr) (a : Ad) (h : p.2.2.1.length ≤ 10000) : flood_Peer_owes.p (p, a, ()) = some (owesP p a, ()) := by
  unfold flood_Peer_owes.p
  simp only [keyS, rid_eq p _ h, Option.bind_some]
  have h2 := List.length_filter_le (fun x => decide (¬ keyA x = keyA a)) p.2.2.1
  have h3 : (ridP p (keyA a)).2.2.1.length + ([a] : List Ad).length ≤ maxBytes / 80 := by
    show (p.2.2.1.filter _).length + 1 ≤ _
    simp only [maxBytes]; omega
  rw [if_pos h3]
  rfl
theorem with_eq (f : Fd) (i : Nat) (p : Pr) (h : f.2.2.1.length ≤ 10000) (hi : i < f.2.2.1.length) : flood_Flood_with.p (f, (i : Int), p, ()) = some ((f.1, f.2.1, f.2.2.1.set i p, ()), ()) := by
  unfold flood_Flood_with.p
  simp only [clonePP _ h, Option.bind_some, Int.toNat_natCast]
  rw [if_pos ⟨Int.natCast_nonneg _, Int.ofNat_lt.2 hi⟩]
/-- A neighbour behind one that is new. -/
def nextP (c : Int) (a : Ad) (i : Nat) (p : Pr) : Pr := if p.1 ≥ 4 then (if (i : Int) = c then heardP p (keyA a) else owesP (heardP p (keyA a)) a) else p
def toP (c : Int) (L : List Pr) (n : Nat) : List Int := ((List.range n).filter fun i => decide ((rdZ zP L i).1 ≥ 4 ∧ ¬ (i : Int) = c)).map fun i : Nat => (i : Int)
theorem toP_succ (c : Int) (L : List Pr) (n : Nat) : toP c L (n + 1) = toP c L n ++ (if (rdZ zP L n).1 ≥ 4 ∧ ¬ (n : Int) = c then [(n : Int)] else []) := by
  unfold toP
  rw [List.range_succ, List.filter_append, List.map_append]
  congr 1
  by_cases h : (rdZ zP L n).1 ≥ 4 ∧ ¬ (n : Int) = c
  · rw [if_pos h]; simp [h]
  · rw [if_neg h]; simp [h]
theorem toP_le (c : Int) (L : List Pr) (n : Nat) : (toP c L n).length ≤ n := by
  unfold toP
  rw [List.length_map]
  exact Nat.le_trans (List.length_filter_le _ _) (by simp)
theorem setP_at (l : List Pr) (m : Nat) (a : Pr) (hm : m < l.length) (j : Nat) : rdZ zP (l.set m a) j = if j = m then a else rdZ zP l j := by
  simp only [rdZ, List.getD_eq_getElem?_getD]
  by_cases h : j = m
  · subst h
    rw [if_pos rfl, List.getElem?_set_self hm]
    rfl
  · rw [if_neg h, List.getElem?_set_ne (fun e => h e.symm)]
theorem on_eq (f : Fd) (c : Int) (a : Ad) (hL : f.2.2.1.length ≤ 1000) (hP : ∀ j, j < f.2.2.1.length → (rdZ zP f.2.2.1 j).2.1.length ≤ 10000 ∧ (rdZ zP f.2.2.1 j).2.2.1.length ≤ 10000) :
    ∃ v : Fd × List Int × Unit, flood_Flood_on.p (f, c, a, ()) = some v ∧ ∃ xs : List Pr, v = ((f.1, f.2.1, xs, ()), toP c f.2.2.1 f.2.2.1.length, ()) ∧ xs.length = f.2.2.1.length ∧ ∀ j, j < f.2.2.1.length → rdZ zP xs j = nextP c a j (rdZ zP f.2.2.1 j) := by
  unfold flood_Flood_on.p
  simp only [keyS, Option.bind_some, jn_eq]
  refine iterK_ex (fun v : Fd × List Int × Unit => ∃ xs : List Pr, v = ((f.1, f.2.1, xs, ()), toP c f.2.2.1 f.2.2.1.length, ()) ∧ xs.length = f.2.2.1.length ∧ ∀ j, j < f.2.2.1.length → rdZ zP xs j = nextP c a j (rdZ zP f.2.2.1 j)) (fun x : List Int × Int × Fd × Unit => f.2.2.1.length - x.2.1.toNat)
    (fun x => ∃ (i : Nat) (xs : List Pr), x = (toP c f.2.2.1 i, (i : Int), (f.1, f.2.1, xs, ()), ()) ∧ i ≤ f.2.2.1.length ∧ xs.length = f.2.2.1.length ∧ (∀ j, j < i → rdZ zP xs j = nextP c a j (rdZ zP f.2.2.1 j)) ∧ ∀ j, i ≤ j → rdZ zP xs j = rdZ zP f.2.2.1 j) ?_ _ _ ⟨0, f.2.2.1, rfl, by omega, rfl, fun j hj => absurd hj (by omega), fun j _ => rfl⟩ (by simp only [Int.toNat_zero]; omega)
  rintro x r ⟨i, xs, rfl, hi, hlen, hlo, hhi⟩ ih
  simp only [Int.toNat_natCast]
  by_cases hil : i < f.2.2.1.length
  · have hil2 : (i : Int) < (f.2.2.1.length : Int) := Int.ofNat_lt.2 hil
    have hsu := toP_succ c f.2.2.1 i
    have hle := toP_le c f.2.2.1 i
    have hnx : nextP c a i (rdZ zP f.2.2.1 i) = if (rdZ zP f.2.2.1 i).1 ≥ 4 then (if (i : Int) = c then heardP (rdZ zP f.2.2.1 i) (keyA a) else owesP (heardP (rdZ zP f.2.2.1 i) (keyA a)) a) else rdZ zP f.2.2.1 i := rfl
    have hh := heard_eq (rdZ zP f.2.2.1 i) (keyA a) (hP i hil).1
    have ho := owes_eq (heardP (rdZ zP f.2.2.1 i) (keyA a)) a (hP i hil).2
    have hw : ∀ p, flood_Flood_with.p ((f.1, f.2.1, xs, ()), (i : Int), p, ()) = some ((f.1, f.2.1, xs.set i p, ()), ()) := fun p => with_eq (f.1, f.2.1, xs, ()) i p (by show xs.length ≤ _; omega) (by show i < xs.length; omega)
    have hstep : ∀ p, nextP c a i (rdZ zP f.2.2.1 i) = p → (∀ j, j < i + 1 → rdZ zP (xs.set i p) j = nextP c a j (rdZ zP f.2.2.1 j)) ∧ ∀ j, i + 1 ≤ j → rdZ zP (xs.set i p) j = rdZ zP f.2.2.1 j := by
      intro p hp
      refine ⟨fun j hj => ?_, fun j hj => ?_⟩
      · rw [setP_at xs i p (by omega)]
        by_cases hji : j = i
        · rw [if_pos hji, hji, hp]
        · rw [if_neg hji]; exact hlo j (by omega)
      · rw [setP_at xs i p (by omega), if_neg (by omega)]
        exact hhi j (by omega)
    simp only [hil2, decide_true, if_true, flood_Peer_floods.p, Option.bind_some]
    rw [if_pos ⟨Int.natCast_nonneg _, trivial⟩, w64 (x := (i : Int) + 1) (by omega)]
    by_cases h4 : (rdZ zP f.2.2.1 i).1 ≥ 4
    · rw [if_pos h4] at hnx
      simp only [h4, decide_true, Bool.not_true, Bool.false_eq_true, if_false, hh, Option.bind_some]
      by_cases hc : (i : Int) = c
      · rw [if_pos hc] at hnx
        rw [if_neg (fun h => h.2 hc), List.append_nil] at hsu
        simp only [hc, decide_true, Bool.not_true, Bool.false_eq_true, if_false, true_and] at hw ih ⊢
        rw [hw]
        simp only [Option.bind_some]
        exact ih _ ⟨i + 1, xs.set i (heardP (rdZ zP f.2.2.1 i) (keyA a)), by rw [hsu, ← hc]; rfl, hil, by rw [List.length_set]; exact hlen, (hstep _ hnx).1, (hstep _ hnx).2⟩ (by simp only; omega)
      · rw [if_neg hc] at hnx
        rw [if_pos ⟨h4, hc⟩] at hsu
        simp only [hc, decide_false, Bool.not_false, if_true, ho, Option.bind_some]
        rw [if_pos (by simp only [List.length_cons, List.length_nil, maxBytes]; omega)]
        rw [hw]
        simp only [Option.bind_some]
        exact ih _ ⟨i + 1, xs.set i (owesP (heardP (rdZ zP f.2.2.1 i) (keyA a)) a), by rw [hsu]; rfl, hil, by rw [List.length_set]; exact hlen, (hstep _ hnx).1, (hstep _ hnx).2⟩ (by simp only; omega)
    · rw [if_neg h4] at hnx
      rw [if_neg (fun h => h4 h.1), List.append_nil] at hsu
      simp only [h4, decide_false, Bool.not_false, if_true]
      refine ih _ ⟨i + 1, xs, by rw [hsu]; rfl, hil, hlen, fun j hj => ?_, fun j hj => hhi j (by omega)⟩ (by simp only; omega)
      by_cases hji : j = i
      · rw [hji, hnx, hhi i (Nat.le_refl _)]
      · exact hlo j (by omega)
  · have hil2 : ¬ (i : Int) < (f.2.2.1.length : Int) := fun h => hil (Int.ofNat_lt.1 h)
    have hie : i = f.2.2.1.length := by omega
    simp only [hil2, decide_false, Bool.false_eq_true, if_false]
    exact ⟨_, rfl, xs, by rw [hie], hlen, fun j hj => hlo j (by omega)⟩
theorem contains_any (l : List Ky) (k : Ky) (hl : l.length ≤ 10000) : ∃ v : Bool, slices_Contains_api_Key_api_Key.p (l, k, ()) = some (v, ()) := by
  have h : ∃ v : Int × Unit, slices_Index_api_Key_api_Key.p (l, k, ()) = some v ∧ True := by
    unfold slices_Index_api_Key_api_Key.p
    simp only [jn_eq]
    refine iterK_ex (fun v : Int × Unit => True) (fun x : Int × Unit => l.length - x.1.toNat) (fun x => ∃ i : Nat, x = ((i : Int), ()) ∧ i ≤ l.length) ?_ _ _ ⟨0, rfl, by omega⟩ (by simp only [Int.toNat_zero]; omega)
    rintro x r ⟨i, rfl, hi⟩ ih
    simp only [Int.toNat_natCast]
    by_cases hil : i < l.length
    · have hil2 : (i : Int) < (l.length : Int) := Int.ofNat_lt.2 hil
      simp only [hil2, decide_true, if_true]
      rw [if_pos ⟨Int.natCast_nonneg _, trivial⟩]
      split
      · exact ⟨_, rfl, trivial⟩
      · rw [w64 (x := (i : Int) + 1) (by omega)]
        exact ih _ ⟨i + 1, rfl, hil⟩ (by simp only; omega)
    · have hil2 : ¬ (i : Int) < (l.length : Int) := fun h => hil (Int.ofNat_lt.1 h)
      simp only [hil2, decide_false, Bool.false_eq_true, if_false]
      exact ⟨_, rfl, trivial⟩
  obtain ⟨v, hv, _⟩ := h
  unfold slices_Contains_api_Key_api_Key.p
  rw [hv]
  exact ⟨_, rfl⟩
theorem find_any (s : St) (k : Ky) (hr : Rise s.2.1) (hl : s.2.1.length ≤ 10000) : ∃ a b, store_Find.p (s, k, ()) = some (a, b, ()) := by
  by_cases h : ∃ m, m < s.2.1.length ∧ keyA (rdZ zA s.2.1 m) = k
  · obtain ⟨m, hm, rfl⟩ := h
    exact ⟨_, _, find_there s hr hl m hm⟩
  · exact ⟨_, _, find_not s k hr hl fun j hj e => h ⟨j, hj, e⟩⟩
abbrev Rp := Int × List Int × Bool × Bool × Bool × List Ad × Int × Unit
theorem isPeer_eq (f : Fd) (c : Int) : flood_Flood_isPeer.p (f, c, ()) = some (decide (0 ≤ c ∧ c < (f.2.2.1.length : Int)), ()) := by
  unfold flood_Flood_isPeer.p
  simp only [jn_eq, ge_iff_le]
  by_cases h1 : 0 ≤ c <;> simp [h1]
/-- What is done with one that came. -/
theorem receive_eq (M : Int) (hM : M ≤ 2000) (f : Fd) (c : Int) (a : Ad) (hI : Inv M f.1) (ha : AdS a) (hl : a.2.1.length ≤ 1400) (hL : f.2.2.1.length ≤ 1000) (hP : ∀ j, j < f.2.2.1.length → (rdZ zP f.2.2.1 j).2.1.length ≤ 10000 ∧ (rdZ zP f.2.2.1 j).2.2.1.length ≤ 10000) :
    ∃ (g : Fd) (r : Rp), flood_Receive.p (f, c, a, ()) = some (g, r, ()) ∧ (¬ (r.2.2.2.2.2.2.1 = 0 ∧ r.1 ≥ 2) → r.2.1 = []) ∧
      (r.2.2.2.2.2.2.1 = 0 → r.1 ≥ 2 → ∃ (t : St) (xs : List Pr) (i m : Nat), c = (i : Int) ∧ i < f.2.2.1.length ∧ (rdZ zP f.2.2.1 i).1 ≥ 4 ∧ g = (t, f.2.1, xs, ()) ∧ Inv M t ∧ f.1.2.1.length ≤ t.2.1.length ∧ whole a.1 a.2.1 = true ∧ rightB a = true ∧ m < t.2.1.length ∧ rdZ zA t.2.1 m = a ∧
        xs.length = f.2.2.1.length ∧ (∀ j, j < f.2.2.1.length → rdZ zP xs j = nextP c a j (rdZ zP f.2.2.1 j)) ∧ r.2.1 = toP c f.2.2.1 f.2.2.1.length) := by
  unfold flood_Receive.p
  simp only [isPeer_eq, jn_eq, Option.bind_some, flood_Peer_floods.p]
  have no : ∀ g : Fd, ∀ e : Int, e ≠ 0 → ∃ (g' : Fd) (r : Rp), some (g, ((0, [], false, false, false, [], e, ()) : Rp), ()) = some (g', r, ()) ∧ (¬ (r.2.2.2.2.2.2.1 = 0 ∧ r.1 ≥ 2) → r.2.1 = []) ∧
      (r.2.2.2.2.2.2.1 = 0 → r.1 ≥ 2 → ∃ (t : St) (xs : List Pr) (i m : Nat), c = (i : Int) ∧ i < f.2.2.1.length ∧ (rdZ zP f.2.2.1 i).1 ≥ 4 ∧ g' = (t, f.2.1, xs, ()) ∧ Inv M t ∧ f.1.2.1.length ≤ t.2.1.length ∧ whole a.1 a.2.1 = true ∧ rightB a = true ∧ m < t.2.1.length ∧ rdZ zA t.2.1 m = a ∧
        xs.length = f.2.2.1.length ∧ (∀ j, j < f.2.2.1.length → rdZ zP xs j = nextP c a j (rdZ zP f.2.2.1 j)) ∧ r.2.1 = toP c f.2.2.1 f.2.2.1.length) :=
    fun g e he => ⟨g, _, rfl, fun _ => rfl, fun h => absurd h he⟩
  by_cases hc : 0 ≤ c ∧ c < (f.2.2.1.length : Int)
  · obtain ⟨i, rfl⟩ := Int.eq_ofNat_of_zero_le hc.1
    have hi : i < f.2.2.1.length := Int.ofNat_lt.1 hc.2
    simp only [hc, and_self, decide_true, Bool.not_true, Bool.false_eq_true, if_false, if_true, Int.toNat_natCast]
    by_cases h4 : (rdZ zP f.2.2.1 i).1 ≥ 4
    · simp only [h4, decide_true, Bool.not_true, Bool.false_eq_true, if_false]
      obtain ⟨t, n, e, hp, hIt, hlen, hlen1, hov, _, _, _, hnew⟩ := put_any M hM f.1 hI a ha hl
      have hlt : t.2.1.length ≤ 10000 := by have := hIt.2.1; omega
      simp only [hp, Option.bind_some, keyS]
      by_cases he : e = 0
      · obtain ⟨hw, hr, m, hm, hkm, hor⟩ := hnew he
        by_cases h1 : n = 1
        · simp only [he, h1, decide_true, Bool.not_true, Bool.false_eq_true, if_false, if_true]
          unfold flood_Flood_again.p
          simp only [Int.toNat_natCast, rid_eq _ _ (hP i hi).2, Option.bind_some]
          rw [if_pos hc, if_pos hc, with_eq (t, f.2.1, f.2.2.1, ()) i _ (by show f.2.2.1.length ≤ _; omega) hi]
          exact ⟨_, _, rfl, fun _ => rfl, fun _ h => absurd (show (1 : Int) ≥ 2 from h) (by decide)⟩
        · by_cases h0 : n = 0
          · simp only [he, h0, decide_true, Bool.not_true, Bool.false_eq_true, if_false, if_true, show ((0 : Int) = 1) = False by simp, decide_false]
            unfold flood_Flood_stale.p
            obtain ⟨v, hv⟩ := contains_any (rdZ zP f.2.2.1 i).2.1 (keyA a) (hP i hi).1
            obtain ⟨x, y, hf⟩ := find_any t (keyA a) hIt.2.2.1 hlt
            simp only [Int.toNat_natCast, hv, hf, Option.bind_some, jn_eq]
            rw [if_pos hc]
            split
            · exact ⟨_, _, rfl, fun _ => rfl, fun _ h => absurd (show (0 : Int) ≥ 2 from h) (by decide)⟩
            · split
              · exact ⟨_, _, rfl, fun _ => rfl, fun _ h => absurd (show (0 : Int) ≥ 2 from h) (by decide)⟩
              · exact ⟨_, _, rfl, fun _ => rfl, fun _ h => absurd (show (0 : Int) ≥ 2 from h) (by decide)⟩
          · simp only [he, h0, h1, decide_true, Bool.not_true, Bool.false_eq_true, if_false, decide_false]
            obtain ⟨v, hon, xs, rfl, hxl, hxs⟩ := on_eq (t, f.2.1, f.2.2.1, ()) (i : Int) a hL hP
            simp only [hon, Option.bind_some]
            refine ⟨_, _, rfl, fun h => ?_, fun _ _ => ⟨t, xs, i, m, rfl, hi, h4, rfl, hIt, hlen, hw, hr, hm, ?_, hxl, hxs, rfl⟩⟩
            · exact absurd ⟨rfl, by show n ≥ 2; omega⟩ h
            · rcases hor with h | h
              · exact h.2
              · omega
      · simp only [he, decide_false, Bool.not_false, if_true]
        exact no _ e he
    · simp only [h4, decide_false, Bool.not_false, if_true]
      exact no _ 12 (by decide)
  · simp only [hc, decide_false, Bool.not_false, if_true]
    exact no _ 12 (by decide)
end Go.Proofs.YtecfclldoccbcaaGreat.F
