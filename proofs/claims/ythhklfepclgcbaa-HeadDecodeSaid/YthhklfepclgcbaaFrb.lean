/- A verified evaluator for a part of the language: each function of the program becomes a plain function, and its contract is proved once for all. -/
import Derived.Test.YthhklfepclgcbaaFra
import Derived.Maps.AppendAt
import Derived.Orders
set_option linter.unusedVariables false
set_option linter.unusedSimpArgs false
/- What crosses a border, in memory: as it is told by its kind. -/
namespace Go.Proofs.Fr
open Go Go.RowKit

variable {P : Program} {B : Bs} {nt : Nat} {fr : Nat → Prop} {s : S} {g : Nat → Value} {a : Act} {w w' : World} {R : Type} {H : Nat → Ob} {ok ok' : Nat → Prop}

/-- The cells of what is told by a kind; bs: the blocks that it owns. -/
def CR (w : World) (ok : Nat → Prop) : (k : K) → k.den → List Value → List Nat → Prop
  | .v t, x, cs, bs => En w ok t x cs ∧ bs = []
  | .own E t, x, cs, bs => ∃ v, cs = [v] ∧ RowO w ok E t x v ∧ bs = (blkOf v).toList
  | .io E t, x, cs, bs => ∃ v, cs = [v] ∧ RowO w ok E t x v ∧ bs = (blkOf v).toList
  | .bx T c, x, cs, bs => ∃ kb arr bs', cs = [.pointer (some ⟨kb, 0, none⟩)] ∧ w.heap[kb]? = some (.cells arr T (0, 0)) ∧ CR w ok c x arr.toList bs' ∧ bs = kb :: bs'
  | .fn f c, x, cs, bs => ∃ caps, cs = [.func (.func f) #[] caps] ∧ CR w ok c x caps.toList bs
  | .np, _, cs, bs => cs = [.pointer none] ∧ bs = []
  | .mb T c, x, cs, bs => match x with
    | none => cs = [.pointer none] ∧ bs = []
    | some x => ∃ kb arr bs', cs = [.pointer (some ⟨kb, 0, none⟩)] ∧ w.heap[kb]? = some (.cells arr T (0, 0)) ∧ CR w ok c x arr.toList bs' ∧ bs = kb :: bs'
  | .nil, _, cs, bs => cs = [] ∧ bs = []
  | .cons a b, x, cs, bs => ∃ c1 c2 b1 b2, cs = c1 ++ c2 ∧ bs = b1 ++ b2 ∧ CR w ok a x.1 c1 b1 ∧ CR w ok b x.2 c2 b2

/-- Likewise of values in a row. -/
def AR (w : World) (ok : Nat → Prop) : (ks : List K) → dens ks → List Value → List Nat → Prop
  | [], _, vs, bs => vs = [] ∧ bs = []
  | k :: r, x, vs, bs => ∃ cs rest b1 b2, vs = mkV k.isAgg cs :: rest ∧ bs = b1 ++ b2 ∧ CR w ok k x.1 cs b1 ∧ AR w ok r x.2 rest b2

theorem CR.len : ∀ {k : K} {x : k.den} {cs : List Value} {bs : List Nat}, CR w ok k x cs bs → cs.length = k.sz
  | .v _, _, _, _, h => h.1.len
  | .own _ _, _, _, _, h => by obtain ⟨v, rfl, _⟩ := h; rfl
  | .io _ _, _, _, _, h => by obtain ⟨v, rfl, _⟩ := h; rfl
  | .bx _ _, _, _, _, h => by obtain ⟨_, _, _, rfl, _⟩ := h; rfl
  | .fn _ _, _, _, _, h => by obtain ⟨_, rfl, _⟩ := h; rfl
  | .np, _, _, _, h => by rw [h.1]; rfl
  | .mb _ _, none, _, _, h => by rw [h.1]; rfl
  | .mb _ _, some _, _, _, h => by obtain ⟨_, _, _, rfl, _⟩ := h; rfl
  | .nil, _, _, _, h => by rw [h.1]; rfl
  | .cons a b, _, _, _, h => by
    obtain ⟨c1, c2, b1, b2, rfl, _, h1, h2⟩ := h
    simp [K.sz, h1.len, h2.len]

theorem CR.lt : ∀ {k : K} {x : k.den} {cs : List Value} {bs : List Nat}, CR w ok k x cs bs → ∀ b ∈ bs, b < w.heap.size
  | .v _, _, _, _, h, b, hb => by rw [h.2] at hb; cases hb
  | .own _ _, _, _, _, h, b, hb => by
    obtain ⟨v, _, h, rfl⟩ := h
    exact RowO.lt h (by simpa using hb)
  | .io _ _, _, _, _, h, b, hb => by
    obtain ⟨v, _, h, rfl⟩ := h
    exact RowO.lt h (by simpa using hb)
  | .bx _ _, _, _, _, h, b, hb => by
    obtain ⟨kb, arr, bs', _, hh, h, rfl⟩ := h
    rcases List.mem_cons.1 hb with rfl | hb
    · exact (Array.getElem?_eq_some_iff.1 hh).1
    · exact h.lt b hb
  | .fn _ _, _, _, _, h, b, hb => by obtain ⟨_, _, h⟩ := h; exact h.lt b hb
  | .np, _, _, _, h, b, hb => by rw [h.2] at hb; cases hb
  | .mb _ _, none, _, _, h, b, hb => by rw [h.2] at hb; cases hb
  | .mb _ _, some _, _, _, h, b, hb => by
    obtain ⟨kb, arr, bs', _, hh, h, rfl⟩ := h
    rcases List.mem_cons.1 hb with rfl | hb
    · exact (Array.getElem?_eq_some_iff.1 hh).1
    · exact h.lt b hb
  | .nil, _, _, _, h, b, hb => by rw [h.2] at hb; cases hb
  | .cons a b, _, _, _, h, q, hq => by
    obtain ⟨c1, c2, b1, b2, _, rfl, h1, h2⟩ := h
    rcases List.mem_append.1 hq with hq | hq
    · exact h1.lt q hq
    · exact h2.lt q hq

theorem CR.mono (hk : ∀ k, ok k → ok' k ∧ w'.heap[k]? = w.heap[k]?) : ∀ {k : K} {x : k.den} {cs : List Value} {bs : List Nat}, (∀ b ∈ bs, w'.heap[b]? = w.heap[b]?) → CR w ok k x cs bs → CR w' ok' k x cs bs
  | .v _, _, _, _, _, h => ⟨En.mono hk h.1, h.2⟩
  | .own _ _, _, _, _, hb, h => by
    obtain ⟨v, e, h, rfl⟩ := h
    exact ⟨v, e, RowO.mono hk (fun k hk' => hb k (by simp [hk'])) h, rfl⟩
  | .io _ _, _, _, _, hb, h => by
    obtain ⟨v, e, h, rfl⟩ := h
    exact ⟨v, e, RowO.mono hk (fun k hk' => hb k (by simp [hk'])) h, rfl⟩
  | .bx _ _, _, _, _, hb, h => by
    obtain ⟨kb, arr, bs', e, hh, h, rfl⟩ := h
    exact ⟨kb, arr, bs', e, (hb kb (.head _)).trans hh, CR.mono hk (fun b h => hb b (.tail _ h)) h, rfl⟩
  | .fn _ _, _, _, _, hb, h => by obtain ⟨caps, e, h⟩ := h; exact ⟨caps, e, CR.mono hk hb h⟩
  | .np, _, _, _, _, h => h
  | .mb _ _, none, _, _, _, h => h
  | .mb _ _, some _, _, _, hb, h => by
    obtain ⟨kb, arr, bs', e, hh, h, rfl⟩ := h
    exact ⟨kb, arr, bs', e, (hb kb (.head _)).trans hh, CR.mono hk (fun b h => hb b (.tail _ h)) h, rfl⟩
  | .nil, _, _, _, _, h => h
  | .cons a b, _, _, _, hb, h => by
    obtain ⟨c1, c2, b1, b2, e, rfl, h1, h2⟩ := h
    exact ⟨c1, c2, b1, b2, e, rfl, CR.mono hk (fun b h => hb b (List.mem_append.2 (.inl h))) h1, CR.mono hk (fun b h => hb b (List.mem_append.2 (.inr h))) h2⟩

theorem AR.lt : ∀ {ks : List K} {x : dens ks} {vs : List Value} {bs : List Nat}, AR w ok ks x vs bs → ∀ b ∈ bs, b < w.heap.size
  | [], _, _, _, h, b, hb => by rw [h.2] at hb; cases hb
  | k :: r, _, _, _, h, b, hb => by
    obtain ⟨cs, rest, b1, b2, _, rfl, h1, h2⟩ := h
    rcases List.mem_append.1 hb with hb | hb
    · exact h1.lt b hb
    · exact h2.lt b hb

theorem AR.mono (hk : ∀ k, ok k → ok' k ∧ w'.heap[k]? = w.heap[k]?) : ∀ {ks : List K} {x : dens ks} {vs : List Value} {bs : List Nat}, (∀ b ∈ bs, w'.heap[b]? = w.heap[b]?) → AR w ok ks x vs bs → AR w' ok' ks x vs bs
  | [], _, _, _, _, h => h
  | k :: r, _, _, _, hb, h => by
    obtain ⟨cs, rest, b1, b2, e, rfl, h1, h2⟩ := h
    exact ⟨cs, rest, b1, b2, e, rfl, h1.mono hk (fun b h => hb b (List.mem_append.2 (.inl h))), AR.mono hk (fun b h => hb b (List.mem_append.2 (.inr h))) h2⟩

theorem AR.vlen : ∀ {ks : List K} {x : dens ks} {vs : List Value} {bs : List Nat}, AR w ok ks x vs bs → vs.length = ks.length
  | [], _, _, _, h => by rw [h.1]; rfl
  | k :: r, _, _, _, h => by
    obtain ⟨cs, rest, b1, b2, rfl, _, _, h2⟩ := h
    simp [AR.vlen h2]

/-- An object whose cells may be written. -/
def Ob.ownd : Ob → Bool
  | .row .. | .box .. => true
  | _ => false

theorem ownd_rb {o : Ob} (h : o.ownd = true) : o.rb = true := by cases o <;> first | rfl | cases h

theorem RowO.take_ {E : Nat} {t : Ty} {xs : List t.den} {A : Option Addr} {m c n : Nat} (h : RowO w ok E t xs (.slice A m c)) (hn : n ≤ m) : RowO w ok E t (xs.take n) (.slice A n c) := by
  obtain ⟨css, hc, hl, ho⟩ := h
  have hlen : ∀ c ∈ css, c.length = t.sz := by
    intro c hcm
    obtain ⟨j, hj, rfl⟩ := List.getElem_of_mem hcm
    exact (hc.get j (hc.len ▸ hj) hj).len
  have hft : ∀ (css : List (List Value)) (n : Nat), (∀ c ∈ css, c.length = t.sz) → (css.take n).flatten = css.flatten.take (n * t.sz) := by
    intro css
    induction css with
    | nil => intro n _; simp
    | cons c css ih =>
      intro n hl
      cases n with
      | zero => simp
      | succ n =>
        have h0 := hl c (.head _)
        simp only [List.take_succ_cons, List.flatten_cons]
        rw [ih n fun c h => hl c (.tail _ h), Nat.add_mul, Nat.one_mul, Nat.add_comm, ← h0, List.take_length_add_append]
  rcases ho with ⟨e, h0⟩ | ⟨q, cap, cur, e, hq, hh, hnc, hm, hcur, htk⟩
  · cases e
    have : n = 0 := by omega
    subst this
    exact ⟨[], by simp [All2], World.ownsRow_nil _ _ _ _⟩
  · cases e
    have hlt : (xs.take n).length = n := by rw [List.length_take]; omega
    refine ⟨css.take n, hc.take n, ?_, .inr ⟨q, c, cur, by rw [hlt], hq, hh, by rw [hlt]; omega, hm, hcur, ?_⟩⟩
    · rw [hft css n hlen, List.length_take, hl, hlt]
      have := Nat.mul_le_mul_right t.sz hn
      omega
    · rw [hft css n hlen, ← htk, List.take_take, hlt]
      congr 1
      have := Nat.mul_le_mul_right t.sz hn
      omega

section
variable {Hv : Nat → Ob}

/-- Some cells are what they are packed as. -/
theorem pkC_R (hv : ∀ id, Hv id = .gone ∨ Hv id = H id) (hobj : ∀ id, OB g H w ok id (H id)) (hok : ∀ k, ok k → ok' k) :
    ∀ {k : K} {ls r : List L} {x : k.den} {fro lent : List Nat} {cs : List Value}, pkC Hv k ls = some (x, r, fro, lent) → All2 (LR g H w ok) ls cs → (∀ id ∈ fro, ∀ k, owned g H id = some k → ok' k) →
      ∃ c1 c2 l1, cs = c1 ++ c2 ∧ ls = l1 ++ r ∧ CR w ok' k x c1 (lent.filterMap (owned g H)) ∧ All2 (LR g H w ok) r c2 := by
  have hrow : ∀ id E t xs, Hv id = .row E t xs → H id = .row E t xs := fun id E t xs h => by rcases hv id with e | e <;> rw [e] at h; cases h; exact h
  have hbox : ∀ id T ls, Hv id = .box T ls → H id = .box T ls := fun id T ls h => by rcases hv id with e | e <;> rw [e] at h; cases h; exact h
  have hclo : ∀ id f ls, Hv id = .clo f ls → H id = .clo f ls := fun id T ls h => by rcases hv id with e | e <;> rw [e] at h; cases h; exact h
  have own_ : ∀ {id E : Nat} {t : Ty} {xs : List t.den}, Hv id = .row E t xs → RowO w ok' E t xs (g id) ∧ owned g H id = blkOf (g id) := by
    intro id E t xs h
    have ho := hobj id
    rw [hrow _ _ _ _ h] at ho
    exact ⟨RowO.mono (fun k hk => ⟨hok k hk, rfl⟩) (fun _ _ => rfl) ho, by simp [owned, hrow _ _ _ _ h]⟩
  intro k
  induction k with
  | v t =>
    intro ls r x fro lent cs h ha hf
    simp only [pkC] at h
    split at h
    · rename_i x' r' i hp
      cases h
      obtain ⟨c1, c2, l1, e1, e2, e3, e4⟩ := pj_En (vw := fun j => (Hv j).vw) (fun id E t xs h => by rcases hv id with e | e <;> simp only [e] at h; cases h; exact h) hobj hok hp ha hf
      exact ⟨c1, c2, l1, e1, e2, ⟨e3, rfl⟩, e4⟩
    · cases h
  | own E t =>
    intro ls r x fro lent cs h ha hf
    simp only [pkC] at h
    split at h
    · cases h
      obtain ⟨b, q, rfl, hb, hq⟩ := ha.cons_l
      exact ⟨[b], q, [_], rfl, rfl, ⟨b, rfl, by rw [show b = _ from hb]; exact ⟨[], trivial, World.ownsRow_nil _ _ _ _⟩, by rw [show b = _ from hb]; rfl⟩, hq⟩
    · rename_i id q'
      split at h
      · rename_i E' t' xs hH
        split at h
        · rename_i ht; subst ht
          split at h
          · rename_i hE; subst hE
            cases h
            obtain ⟨b, q, rfl, hb, hq⟩ := ha.cons_l
            obtain ⟨h1, h2⟩ := own_ hH
            have hbg : b = g id := hb.2 t' xs.length (by rw [hrow _ _ _ _ hH]; rfl)
            exact ⟨[b], q, [_], rfl, rfl, ⟨b, rfl, by rw [hbg]; exact h1, by rw [hbg, ← h2]; cases e : owned g H id <;> simp [e]⟩, hq⟩
          · cases h
        · cases h
      · cases h
    · rename_i id n q'
      split at h
      · rename_i E' t' xs hH
        split at h
        · rename_i ht; subst ht
          split at h
          · rename_i hE; subst hE
            cases h
            obtain ⟨b, q, rfl, hb, hq⟩ := ha.cons_l
            obtain ⟨h1, h2⟩ := own_ hH
            obtain ⟨hn, A, c, hg, hbv⟩ := hb.2 t' xs.length (by rw [hrow _ _ _ _ hH]; rfl)
            rw [hg] at h1 h2
            have hbl : blkOf b = owned g H id := by rw [h2, hbv]; cases A <;> rfl
            exact ⟨[b], q, [_], rfl, rfl, ⟨b, rfl, by rw [hbv]; exact h1.take_ hn, by rw [hbl]; cases e : owned g H id <;> simp [e]⟩, hq⟩
          · cases h
        · cases h
      · cases h
    · cases h
  | io E t =>
    intro ls r x fro lent cs h ha hf
    simp only [pkC] at h
    split at h
    · rename_i id q'
      split at h
      · rename_i E' t' xs hH
        split at h
        · rename_i ht; subst ht
          split at h
          · rename_i hE; subst hE
            cases h
            obtain ⟨b, q, rfl, hb, hq⟩ := ha.cons_l
            obtain ⟨h1, h2⟩ := own_ hH
            have hbg : b = g id := hb.2 t' xs.length (by rw [hrow _ _ _ _ hH]; rfl)
            exact ⟨[b], q, [_], rfl, rfl, ⟨b, rfl, by rw [hbg]; exact h1, by rw [hbg, ← h2]; cases e : owned g H id <;> simp [e]⟩, hq⟩
          · cases h
        · cases h
      · cases h
    · cases h
  | bx T c ih =>
    intro ls r x fro lent cs h ha hf
    simp only [pkC] at h
    split at h
    · rename_i id q'
      split at h
      · rename_i T' ls' hH
        split at h
        · rename_i hT; subst hT
          split at h
          · rename_i x' fro' lent' hp
            cases h
            obtain ⟨b, q, rfl, hb, hq⟩ := ha.cons_l
            have ho := hobj id
            rw [hbox _ _ _ hH] at ho
            obtain ⟨kb, arr, hg, hh, hall⟩ := ho
            obtain ⟨kb', hg', hbv⟩ := hb.2 (.nil, 0) (by rw [hbox _ _ _ hH]; rfl)
            rw [hg] at hg'; cases hg'
            obtain ⟨c1, c2, l1, e1, e2, e3, e4⟩ := ih hp hall hf
            rw [All2.nil_l e4, List.append_nil] at e1
            have hown : owned g H id = some kb := by simp [owned, hbox _ _ _ hH, hg, blkOf]
            exact ⟨[b], q, [_], rfl, rfl, ⟨kb, arr, lent'.filterMap (owned g H), by rw [hbv], hh, by rw [e1]; exact e3, by simp [hown]⟩, hq⟩
          · cases h
        · cases h
      · cases h
    · cases h
  | fn f c ih =>
    intro ls r x fro lent cs h ha hf
    simp only [pkC] at h
    split at h
    · rename_i f' q'
      split at h
      · rename_i hff; subst hff
        split at h
        · rename_i x' fro' lent' hp
          cases h
          obtain ⟨b, q, rfl, hb, hq⟩ := ha.cons_l
          obtain ⟨c1, c2, l1, e1, e2, e3, e4⟩ := ih (cs := []) hp trivial hf
          obtain ⟨hc1, _⟩ := List.append_eq_nil_iff.1 e1.symm
          subst hc1
          exact ⟨[b], q, [_], rfl, rfl, ⟨#[], by rw [show b = _ from hb], e3⟩, hq⟩
        · cases h
      · cases h
    · rename_i id q'
      split at h
      · rename_i f' ls' hH
        split at h
        · rename_i hff; subst hff
          split at h
          · rename_i x' fro' lent' hp
            cases h
            obtain ⟨b, q, rfl, hb, hq⟩ := ha.cons_l
            have ho := hobj id
            rw [hclo _ _ _ hH] at ho
            obtain ⟨caps, hg, hall⟩ := ho
            have hbg : b = g id := hb.2 .nil 0 (by rw [hclo _ _ _ hH]; rfl)
            obtain ⟨c1, c2, l1, e1, e2, e3, e4⟩ := ih hp hall hf
            rw [All2.nil_l e4, List.append_nil] at e1
            exact ⟨[b], q, [_], rfl, rfl, ⟨caps, by rw [hbg, hg], by rw [e1]; exact e3⟩, hq⟩
          · cases h
        · cases h
      · cases h
    · cases h
  | np =>
    intro ls r x fro lent cs h ha hf
    simp only [pkC] at h
    split at h
    · cases h
      obtain ⟨b, q, rfl, hb, hq⟩ := ha.cons_l
      exact ⟨[b], q, [_], rfl, rfl, ⟨by rw [show b = _ from hb], rfl⟩, hq⟩
    · cases h
  | mb T c ih =>
    intro ls r x fro lent cs h ha hf
    simp only [pkC] at h
    split at h
    · cases h
      obtain ⟨b, q, rfl, hb, hq⟩ := ha.cons_l
      exact ⟨[b], q, [_], rfl, rfl, ⟨by rw [show b = _ from hb], rfl⟩, hq⟩
    · rename_i id q'
      split at h
      · rename_i T' ls' hH
        split at h
        · rename_i hT; subst hT
          split at h
          · rename_i x' fro' lent' hp
            cases h
            obtain ⟨b, q, rfl, hb, hq⟩ := ha.cons_l
            have ho := hobj id
            rw [hbox _ _ _ hH] at ho
            obtain ⟨kb, arr, hg, hh, hall⟩ := ho
            obtain ⟨kb', hg', hbv⟩ := hb.2 (.nil, 0) (by rw [hbox _ _ _ hH]; rfl)
            rw [hg] at hg'; cases hg'
            obtain ⟨c1, c2, l1, e1, e2, e3, e4⟩ := ih hp hall hf
            rw [All2.nil_l e4, List.append_nil] at e1
            have hown : owned g H id = some kb := by simp [owned, hbox _ _ _ hH, hg, blkOf]
            exact ⟨[b], q, [_], rfl, rfl, ⟨kb, arr, lent'.filterMap (owned g H), by rw [hbv], hh, by rw [e1]; exact e3, by simp [hown]⟩, hq⟩
          · cases h
        · cases h
      · cases h
    · cases h
  | nil =>
    intro ls r x fro lent cs h ha hf
    simp only [pkC] at h
    cases h
    exact ⟨[], cs, [], rfl, rfl, ⟨rfl, rfl⟩, ha⟩
  | cons a b iha ihb =>
    intro ls r x fro lent cs h ha hf
    simp only [pkC] at h
    split at h
    · rename_i x1 r1 f1 l1 h1
      split at h
      · rename_i y r2 f2 l2 h2
        cases h
        obtain ⟨c1, c2, m1, rfl, rfl, e1, a1⟩ := iha h1 ha (fun id hm => hf id (List.mem_append.2 (.inl hm)))
        obtain ⟨c3, c4, m2, rfl, rfl, e2, a2⟩ := ihb h2 a1 (fun id hm => hf id (List.mem_append.2 (.inr hm)))
        exact ⟨c1 ++ c3, c4, m1 ++ m2, by simp, by simp, ⟨c1, c3, _, _, rfl, by rw [List.filterMap_append], e1, e2⟩, a2⟩
      · cases h
    · cases h

/-- The names told when some cells are packed. -/
theorem pkC_ids (hv : ∀ id, Hv id = .gone ∨ Hv id = H id) (hkold : ∀ id, ∀ j ∈ (H id).kids, ¬ fr j) :
    ∀ {k : K} {ls r : List L} {x : k.den} {fro lent : List Nat}, pkC Hv k ls = some (x, r, fro, lent) → (∀ l ∈ ls, ∀ j ∈ l.ids, ¬ fr j) →
      (∀ id ∈ fro, ¬ fr id ∧ (H id).rb = true) ∧ (∀ id ∈ lent, ¬ fr id ∧ (H id).ownd = true) ∧ ∀ l ∈ r, l ∈ ls := by
  have hvi : ∀ id o, Hv id = o → o ≠ .gone → H id = o := fun id o h hne => by rcases hv id with e | e; exact absurd (e.symm.trans h).symm hne; exact e.symm.trans h
  intro k
  induction k with
  | v t =>
    intro ls r x fro lent h hl
    simp only [pkC] at h
    split at h
    · rename_i x' r' i hp
      cases h
      refine ⟨fun id hi => ?_, by simp, (pj_ids hp).2⟩
      obtain ⟨l, hl', hi'⟩ := (pj_ids hp).1 id hi
      obtain ⟨E, t', xs, hvr⟩ := pj_rows hp id hi
      refine ⟨hl l hl' id hi', rb_row ⟨E, t', xs, ?_⟩⟩
      rcases hv id with e | e <;> simp only [e] at hvr
      · cases hvr
      · exact hvr
    · cases h
  | own E t =>
    intro ls r x fro lent h hl
    simp only [pkC] at h
    split at h
    · cases h; exact ⟨by simp, by simp, fun l h => .tail _ h⟩
    · rename_i id q'
      split at h
      · rename_i E' t' xs hH
        split at h
        · split at h
          · cases h
            refine ⟨by simp, fun j hj => ?_, fun l h => .tail _ h⟩
            have : j = id := by simpa using hj
            subst this
            exact ⟨hl _ (.head _) j (by simp [L.ids]), by rw [hvi _ _ hH (by simp)]; rfl⟩
          · cases h
        · cases h
      · cases h
    · rename_i id n q'
      split at h
      · rename_i E' t' xs hH
        split at h
        · split at h
          · cases h
            refine ⟨by simp, fun j hj => ?_, fun l h => .tail _ h⟩
            have : j = id := by simpa using hj
            subst this
            exact ⟨hl _ (.head _) j (by simp [L.ids]), by rw [hvi _ _ hH (by simp)]; rfl⟩
          · cases h
        · cases h
      · cases h
    · cases h
  | io E t =>
    intro ls r x fro lent h hl
    simp only [pkC] at h
    split at h
    · rename_i id q'
      split at h
      · rename_i E' t' xs hH
        split at h
        · split at h
          · cases h
            refine ⟨by simp, fun j hj => ?_, fun l h => .tail _ h⟩
            have : j = id := by simpa using hj
            subst this
            exact ⟨hl _ (.head _) j (by simp [L.ids]), by rw [hvi _ _ hH (by simp)]; rfl⟩
          · cases h
        · cases h
      · cases h
    · cases h
  | bx T c ih =>
    intro ls r x fro lent h hl
    simp only [pkC] at h
    split at h
    · rename_i id q'
      split at h
      · rename_i T' ls' hH
        split at h
        · split at h
          · rename_i x' fro' lent' hp
            cases h
            have hHb := hvi _ _ hH (by simp)
            obtain ⟨h1, h2, _⟩ := ih hp (fun l hm j hj => hkold id j (by rw [hHb]; exact List.mem_flatMap.2 ⟨l, hm, hj⟩))
            refine ⟨h1, fun j hj => ?_, fun l h => .tail _ h⟩
            rcases List.mem_cons.1 hj with rfl | hj
            · exact ⟨hl _ (.head _) j (by simp [L.ids]), by rw [hHb]; rfl⟩
            · exact h2 j hj
          · cases h
        · cases h
      · cases h
    · cases h
  | fn f c ih =>
    intro ls r x fro lent h hl
    simp only [pkC] at h
    split at h
    · split at h
      · split at h
        · rename_i x' fro' lent' hp
          cases h
          obtain ⟨h1, h2, _⟩ := ih hp (by simp)
          exact ⟨h1, h2, fun l h => .tail _ h⟩
        · cases h
      · cases h
    · rename_i id q'
      split at h
      · rename_i f' ls' hH
        split at h
        · split at h
          · rename_i x' fro' lent' hp
            cases h
            obtain ⟨h1, h2, _⟩ := ih hp (fun l hm j hj => hkold id j (by rw [hvi _ _ hH (by simp)]; exact List.mem_flatMap.2 ⟨l, hm, hj⟩))
            exact ⟨h1, h2, fun l h => .tail _ h⟩
          · cases h
        · cases h
      · cases h
    · cases h
  | np =>
    intro ls r x fro lent h hl
    simp only [pkC] at h
    split at h
    · cases h; exact ⟨by simp, by simp, fun l h => .tail _ h⟩
    · cases h
  | mb T c ih =>
    intro ls r x fro lent h hl
    simp only [pkC] at h
    split at h
    · cases h; exact ⟨by simp, by simp, fun l h => .tail _ h⟩
    · rename_i id q'
      split at h
      · rename_i T' ls' hH
        split at h
        · split at h
          · rename_i x' fro' lent' hp
            cases h
            have hHb := hvi _ _ hH (by simp)
            obtain ⟨h1, h2, _⟩ := ih hp (fun l hm j hj => hkold id j (by rw [hHb]; exact List.mem_flatMap.2 ⟨l, hm, hj⟩))
            refine ⟨h1, fun j hj => ?_, fun l h => .tail _ h⟩
            rcases List.mem_cons.1 hj with rfl | hj
            · exact ⟨hl _ (.head _) j (by simp [L.ids]), by rw [hHb]; rfl⟩
            · exact h2 j hj
          · cases h
        · cases h
      · cases h
    · cases h
  | nil =>
    intro ls r x fro lent h hl
    simp only [pkC] at h
    cases h
    exact ⟨by simp, by simp, fun l h => h⟩
  | cons a b iha ihb =>
    intro ls r x fro lent h hl
    simp only [pkC] at h
    split at h
    · rename_i x1 r1 f1 l1 h1
      split at h
      · rename_i y r2 f2 l2 h2
        cases h
        obtain ⟨p1, q1, s1⟩ := iha h1 hl
        obtain ⟨p2, q2, s2⟩ := ihb h2 (fun l h => hl l (s1 l h))
        refine ⟨fun id hm => ?_, fun id hm => ?_, fun l h => s1 l (s2 l h)⟩
        · rcases List.mem_append.1 hm with hm | hm
          · exact p1 id hm
          · exact p2 id hm
        · rcases List.mem_append.1 hm with hm | hm
          · exact q1 id hm
          · exact q2 id hm
      · cases h
    · cases h

theorem mkV_D0 {k : K} {d : D0} {v : Value} {cs : List Value} (hagg : d.isAgg = k.isAgg) (hd : D0R g H w ok d v) (hcs : All2 (LR g H w ok) d.ls cs) (he : ∀ u, d = .one u → cs = [v]) (he2 : ∀ ls, d = .agg ls → v = .agg cs.toArray) : v = mkV k.isAgg cs := by
  cases d with
  | one l =>
    rw [← hagg, he l rfl]; rfl
  | agg ls =>
    rw [← hagg, he2 ls rfl]; simp [D0.isAgg, mkV]

theorem D0R_all {d : D0} {v : Value} (hd : D0R g H w ok d v) : ∃ cs, All2 (LR g H w ok) d.ls cs ∧ v = mkV d.isAgg cs := by
  cases d with
  | one l => exact ⟨[v], ⟨hd, trivial⟩, rfl⟩
  | agg ls =>
    obtain ⟨cs, rfl, h⟩ := hd
    exact ⟨cs.toList, h, by simp [mkV, D0.isAgg]⟩

theorem pkA_R (hv : ∀ id, Hv id = .gone ∨ Hv id = H id) (hobj : ∀ id, OB g H w ok id (H id)) (hok : ∀ k, ok k → ok' k) :
    ∀ {ks : List K} {ds : List D} {vs : List Value} {x : dens ks} {fro lent : List Nat}, pkA Hv ks ds = some (x, fro, lent) → All2 (DR g H w ok) ds vs → (∀ id ∈ fro, ∀ k, owned g H id = some k → ok' k) →
      AR w ok' ks x vs (lent.filterMap (owned g H))
  | [], ds, vs, x, fro, lent, h, ha, _ => by
    simp only [pkA] at h
    split at h
    · cases h; exact ⟨All2.nil_l ha, rfl⟩
    · cases h
  | k :: r, ds, vs, x, fro, lent, h, ha, hf => by
    simp only [pkA] at h
    split at h
    · rename_i d ds
      split at h
      · rename_i hagg
        split at h
        · rename_i x1 f1 l1 h1
          split at h
          · rename_i y f2 l2 h2
            cases h
            obtain ⟨v, rest, rfl, hd, hrest⟩ := ha.cons_l
            obtain ⟨cs, hcs, hvm⟩ := D0R_all (show D0R g H w ok d v from hd)
            obtain ⟨c1, c2, m1, e1, _, e3, e4⟩ := pkC_R hv hobj hok h1 hcs (fun id hm => hf id (List.mem_append.2 (.inl hm)))
            rw [All2.nil_l e4, List.append_nil] at e1
            subst e1
            exact ⟨cs, rest, _, _, by rw [hvm, hagg], by rw [List.filterMap_append], e3, pkA_R hv hobj hok h2 hrest (fun id hm => hf id (List.mem_append.2 (.inr hm)))⟩
          · cases h
        · cases h
      · cases h
    · cases h

theorem pkA_ids (hv : ∀ id, Hv id = .gone ∨ Hv id = H id) (hkold : ∀ id, ∀ j ∈ (H id).kids, ¬ fr j) :
    ∀ {ks : List K} {ds : List D} {x : dens ks} {fro lent : List Nat}, pkA Hv ks ds = some (x, fro, lent) → (∀ d ∈ ds, ∀ j ∈ d.ids, ¬ fr j) →
      (∀ id ∈ fro, ¬ fr id ∧ (H id).rb = true) ∧ (∀ id ∈ lent, ¬ fr id ∧ (H id).ownd = true)
  | [], ds, x, fro, lent, h, _ => by
    simp only [pkA] at h
    split at h
    · cases h; simp
    · cases h
  | k :: r, ds, x, fro, lent, h, hd => by
    simp only [pkA] at h
    split at h
    · rename_i d ds
      split at h
      · split at h
        · rename_i x1 f1 l1 h1
          split at h
          · rename_i y f2 l2 h2
            cases h
            obtain ⟨p1, q1, _⟩ := pkC_ids hv hkold h1 (fun l hl j hj => hd _ (.head _) j (by simp only [D.ids, D0.ids, List.mem_flatMap]; exact ⟨l, hl, hj⟩))
            obtain ⟨p2, q2⟩ := pkA_ids hv hkold h2 (fun d hm => hd d (.tail _ hm))
            refine ⟨fun id hm => ?_, fun id hm => ?_⟩
            · rcases List.mem_append.1 hm with hm | hm
              · exact p1 id hm
              · exact p2 id hm
            · rcases List.mem_append.1 hm with hm | hm
              · exact q1 id hm
              · exact q2 id hm
          · cases h
        · cases h
      · cases h
    · cases h
end

end Go.Proofs.Fr

/- What comes back across a border is laid: the objects that it is, by names of their own. -/
namespace Go.Proofs.Fr
open Go Go.RowKit

variable {P : Program} {B : Bs} {nt : Nat} {fr : Nat → Prop} {s : S} {g : Nat → Value} {a : Act} {w w' : World} {R : Type} {H : Nat → Ob} {ok ok' : Nat → Prop}

def ownB (o : Ob) (v : Value) : Option Nat :=
  match o with
  | .box .. => blkOf v
  | .row .. => blkOf v
  | _ => none

theorem owned_eq (g : Nat → Value) (H : Nat → Ob) (i : Nat) : owned g H i = ownB (H i) (g i) := by
  unfold owned ownB
  cases H i <;> rfl

def ownsL : List Ob → List Value → List Nat
  | o :: os, v :: vs => (ownB o v).toList ++ ownsL os vs
  | _, _ => []

theorem ownsL_app : ∀ {os os' : List Ob} {vs vs' : List Value}, os.length = vs.length → ownsL (os ++ os') (vs ++ vs') = ownsL os vs ++ ownsL os' vs'
  | [], _, [], _, _ => rfl
  | o :: os, _, v :: vs, _, h => by
    simp only [List.cons_append, ownsL, List.append_assoc]
    rw [ownsL_app (by simpa using h)]
  | [], _, _ :: _, _, h => by simp at h
  | _ :: _, _, [], _, h => by simp at h

theorem ownsL_mem : ∀ {os : List Ob} {vs : List Value} {i : Nat} {o : Ob} {v : Value} {k : Nat}, os[i]? = some o → vs[i]? = some v → ownB o v = some k → k ∈ ownsL os vs
  | [], _, _, _, _, _, h, _, _ => by simp at h
  | _ :: _, [], _, _, _, _, _, h, _ => by simp at h
  | o0 :: os, v0 :: vs, 0, o, v, k, ho, hv, hk => by
    simp at ho hv; subst ho; subst hv
    simp [ownsL, hk]
  | o0 :: os, v0 :: vs, i + 1, o, v, k, ho, hv, hk => by
    simp only [ownsL, List.mem_append]
    exact .inr (ownsL_mem (by simpa using ho) (by simpa using hv) hk)

theorem ownsL_inj : ∀ {os : List Ob} {vs : List Value}, (ownsL os vs).Nodup → ∀ {i j : Nat} {o o' : Ob} {v v' : Value} {k : Nat}, os[i]? = some o → vs[i]? = some v → ownB o v = some k → os[j]? = some o' → vs[j]? = some v' → ownB o' v' = some k → i = j
  | [], _, _, _, _, _, _, _, _, _, h, _, _, _, _, _ => by simp at h
  | _ :: _, [], _, _, _, _, _, _, _, _, _, h, _, _, _, _ => by simp at h
  | o0 :: os, v0 :: vs, hn, i, j, o, o', v, v', k, h1, h2, h3, h4, h5, h6 => by
    simp only [ownsL, List.nodup_append] at hn
    obtain ⟨_, hn2, hn3⟩ := hn
    cases i with
    | zero =>
      simp at h1 h2; subst h1; subst h2
      cases j with
      | zero => rfl
      | succ j => exact absurd rfl (hn3 k (by simp [h3]) k (ownsL_mem (by simpa using h4) (by simpa using h5) h6))
    | succ i =>
      cases j with
      | zero =>
        simp at h4 h5; subst h4; subst h5
        exact absurd rfl (hn3 k (by simp [h6]) k (ownsL_mem (by simpa using h1) (by simpa using h2) h3))
      | succ j => rw [ownsL_inj hn2 (i := i) (j := j) (by simpa using h1) (by simpa using h2) h3 (by simpa using h4) (by simpa using h5) h6]

theorem isNil_eq {c : K} (h : c.isNil = true) : c = .nil := by cases c <;> first | rfl | cases h

theorem mkC_len : ∀ (k : K) (x : k.den) (n : Nat), (mkC k x n).2.length = k.nob
  | .v _, _, _ => rfl
  | .own _ _, _, _ => rfl
  | .io _ _, _, _ => rfl
  | .bx _ c, x, n => by simp only [mkC, List.length_cons, mkC_len c x (n + 1), K.nob]
  | .fn _ c, x, n => by
    simp only [mkC, K.nob]
    cases c.isNil
    · simp only [cond_false, List.length_cons, mkC_len c x (n + 1)]
    · rfl
  | .np, _, _ => rfl
  | .mb .., _, _ => rfl
  | .nil, _, _ => rfl
  | .cons a b, x, n => by simp only [mkC, List.length_append, mkC_len a x.1 n, mkC_len b x.2 (n + a.nob), K.nob]

theorem mkC_ids : ∀ (k : K) (x : k.den) (n : Nat), (∀ l ∈ (mkC k x n).1, ∀ j ∈ l.ids, n ≤ j ∧ j < n + k.nob) ∧ (∀ o ∈ (mkC k x n).2, ∀ j ∈ o.kids, n ≤ j ∧ j < n + k.nob)
  | .v t, x, n => ⟨fun l hl j hj => (by rw [inj_ids t x l hl] at hj; cases hj), by simp [mkC]⟩
  | .own _ _, _, n => ⟨by simp [mkC, L.ids, K.nob], by simp [mkC, Ob.kids]⟩
  | .io _ _, _, n => ⟨by simp [mkC, L.ids, K.nob], by simp [mkC, Ob.kids]⟩
  | .bx T c, x, n => by
    obtain ⟨h1, h2⟩ := mkC_ids c x (n + 1)
    refine ⟨fun l hl j hj => ?_, fun o ho j hj => ?_⟩
    · simp only [mkC, List.mem_singleton] at hl; subst hl
      simp only [L.ids, List.mem_singleton] at hj; subst hj
      simp only [K.nob]; omega
    · simp only [K.nob]
      rcases List.mem_cons.1 ho with rfl | ho
      · obtain ⟨l, hl, hj⟩ := List.mem_flatMap.1 hj
        have := h1 l hl j hj; omega
      · have := h2 o ho j hj; omega
  | .fn f c, x, n => by
    obtain ⟨h1, h2⟩ := mkC_ids c x (n + 1)
    simp only [mkC, K.nob]
    cases c.isNil
    · simp only [cond_false]
      refine ⟨fun l hl j hj => ?_, fun o ho j hj => ?_⟩
      · simp only [List.mem_singleton] at hl; subst hl
        simp only [L.ids, List.mem_singleton] at hj; subst hj
        omega
      · rcases List.mem_cons.1 ho with rfl | ho
        · obtain ⟨l, hl, hj⟩ := List.mem_flatMap.1 hj
          have := h1 l hl j hj; omega
        · have := h2 o ho j hj; omega
    · exact ⟨by simp [L.ids], by simp⟩
  | .np, _, n => ⟨by simp [mkC, L.ids], by simp [mkC]⟩
  | .mb .., _, n => ⟨by simp [mkC, L.ids], by simp [mkC]⟩
  | .nil, _, n => ⟨by simp [mkC], by simp [mkC]⟩
  | .cons a b, x, n => by
    obtain ⟨h1, h2⟩ := mkC_ids a x.1 n
    obtain ⟨h3, h4⟩ := mkC_ids b x.2 (n + a.nob)
    simp only [mkC, K.nob]
    refine ⟨fun l hl j hj => ?_, fun o ho j hj => ?_⟩
    · rcases List.mem_append.1 hl with hl | hl
      · have := h1 l hl j hj; omega
      · have := h3 l hl j hj; omega
    · rcases List.mem_append.1 ho with ho | ho
      · have := h2 o ho j hj; omega
      · have := h4 o ho j hj; omega

/-- What is laid is what was told. -/
theorem mkC_R : ∀ {k : K} {x : k.den} {cs : List Value} {bs : List Nat} (n : Nat), CR w ok k x cs bs → ∃ gs : List Value, gs.length = k.nob ∧ (ownsL (mkC k x n).2 gs).Sublist bs ∧ (∀ (i : Nat) o v, (mkC k x n).2[i]? = some o → gs[i]? = some v → ownB o v = blkOf v) ∧
    ∀ (G : Nat → Value) (H' : Nat → Ob), (∀ i v, gs[i]? = some v → G (n + i) = v) → (∀ i o, (mkC k x n).2[i]? = some o → H' (n + i) = o) →
      All2 (LR G H' w ok) (mkC k x n).1 cs ∧ ∀ i o, (mkC k x n).2[i]? = some o → OB G H' w ok (n + i) o
  | .v t, x, cs, bs, n, h => ⟨[], rfl, List.nil_sublist _, fun i o v _ hv => by simp at hv, fun G H' _ _ => ⟨inj_LR h.1, fun i o ho => by simp [mkC] at ho⟩⟩
  | .own E t, x, cs, bs, n, h => by
    obtain ⟨v, rfl, hr, rfl⟩ := h
    refine ⟨[v], rfl, by simp [mkC, ownsL, ownB], fun i o u ho hu => (by cases i with | zero => (simp [mkC] at ho hu; subst ho; rfl) | succ i => simp at hu), fun G H' hg hH => ?_⟩
    have h0 : G n = v := by simpa using hg 0 v rfl
    have h1 : H' n = .row E t x := by simpa [mkC] using hH 0 (.row E t x) rfl
    refine ⟨⟨⟨?_, fun _ _ _ => h0.symm⟩, trivial⟩, fun i o ho => ?_⟩
    · obtain ⟨A, c, hv, _⟩ := hr.slice_
      rw [hv]; rfl
    · cases i with
      | zero => simp [mkC] at ho; subst ho; show RowO w ok E t x (G (n + 0)); rw [Nat.add_zero, h0]; exact hr
      | succ i => simp [mkC] at ho
  | .io E t, x, cs, bs, n, h => by
    obtain ⟨v, rfl, hr, rfl⟩ := h
    refine ⟨[v], rfl, by simp [mkC, ownsL, ownB], fun i o u ho hu => (by cases i with | zero => (simp [mkC] at ho hu; subst ho; rfl) | succ i => simp at hu), fun G H' hg hH => ?_⟩
    have h0 : G n = v := by simpa using hg 0 v rfl
    refine ⟨⟨⟨?_, fun _ _ _ => h0.symm⟩, trivial⟩, fun i o ho => ?_⟩
    · obtain ⟨A, c, hv, _⟩ := hr.slice_
      rw [hv]; rfl
    · cases i with
      | zero => simp [mkC] at ho; subst ho; show RowO w ok E t x (G (n + 0)); rw [Nat.add_zero, h0]; exact hr
      | succ i => simp [mkC] at ho
  | .bx T c, x, cs, bs, n, h => by
    obtain ⟨kb, arr, bs', rfl, hh, hc, rfl⟩ := h
    obtain ⟨gs, h1, h2, h2b, h3⟩ := mkC_R (n + 1) hc
    refine ⟨.pointer (some ⟨kb, 0, none⟩) :: gs, by simp [h1, K.nob], by simp [mkC, ownsL, ownB, blkOf, h2], fun i o u ho hu => (by cases i with | zero => (simp [mkC] at ho hu; subst ho; rfl) | succ i => exact h2b i o u (by simpa [mkC] using ho) (by simpa using hu)), fun G H' hg hH => ?_⟩
    have h0 : G n = .pointer (some ⟨kb, 0, none⟩) := by simpa using hg 0 _ rfl
    obtain ⟨q1, q2⟩ := h3 G H' (fun i v hi => by have := hg (i + 1) v (by simpa using hi); rw [show n + 1 + i = n + (i + 1) by omega]; exact this)
      (fun i o hi => by have := hH (i + 1) o (by simpa [mkC] using hi); rw [show n + 1 + i = n + (i + 1) by omega]; exact this)
    refine ⟨⟨⟨⟨_, rfl⟩, fun q _ => ⟨kb, h0, rfl⟩⟩, trivial⟩, fun i o ho => ?_⟩
    cases i with
    | zero =>
      simp [mkC] at ho; subst ho
      exact ⟨kb, arr, by rw [Nat.add_zero]; exact h0, hh, q1⟩
    | succ i =>
      have := q2 i o (by simpa [mkC] using ho)
      rw [show n + (i + 1) = n + 1 + i by omega]; exact this
  | .fn f c, x, cs, bs, n, h => by
    obtain ⟨caps, rfl, hc⟩ := h
    cases hn : c.isNil with
    | true =>
      have := isNil_eq hn
      subst this
      obtain ⟨e1, e2⟩ := hc
      refine ⟨[], by simp [K.nob, K.isNil], by simp [mkC, K.isNil, ownsL], fun i o v _ hv => by simp at hv, fun G H' _ _ => ⟨?_, fun i o ho => by simp [mkC, K.isNil] at ho⟩⟩
      have : caps = #[] := by apply Array.ext'; simpa using e1
      subst this
      simp only [mkC, K.isNil, cond_true]
      exact ⟨rfl, trivial⟩
    | false =>
      obtain ⟨gs, h1, h2, h2b, h3⟩ := mkC_R (n + 1) hc
      refine ⟨.func (.func f) #[] caps :: gs, by simp [h1, K.nob, hn], by simp [mkC, hn, ownsL, ownB, h2], fun i o u ho hu => (by simp only [mkC, hn, cond_false] at ho; cases i with | zero => (simp at ho hu; subst ho; subst hu; rfl) | succ i => exact h2b i o u (by simpa using ho) (by simpa using hu)), fun G H' hg hH => ?_⟩
      have h0 : G n = .func (.func f) #[] caps := by simpa using hg 0 _ rfl
      simp only [mkC, hn, cond_false] at hH ⊢
      obtain ⟨q1, q2⟩ := h3 G H' (fun i v hi => by have := hg (i + 1) v (by simpa using hi); rw [show n + 1 + i = n + (i + 1) by omega]; exact this)
        (fun i o hi => by have := hH (i + 1) o (by simpa using hi); rw [show n + 1 + i = n + (i + 1) by omega]; exact this)
      refine ⟨⟨⟨rfl, fun _ _ _ => h0.symm⟩, trivial⟩, fun i o ho => ?_⟩
      cases i with
      | zero =>
        simp at ho; subst ho
        exact ⟨caps, by rw [Nat.add_zero]; exact h0, q1⟩
      | succ i =>
        have := q2 i o (by simpa using ho)
        rw [show n + (i + 1) = n + 1 + i by omega]; exact this
  | .np, x, cs, bs, n, h => ⟨[], rfl, List.nil_sublist _, fun i o v _ hv => by simp at hv, fun G H' _ _ => ⟨by rw [h.1]; exact ⟨rfl, trivial⟩, fun i o ho => by simp [mkC] at ho⟩⟩
  | .mb .., x, cs, bs, n, h => by
    have hl := h.len
    refine ⟨[], rfl, List.nil_sublist _, fun i o v _ hv => by simp at hv, fun G H' _ _ => ⟨?_, fun i o ho => by simp [mkC] at ho⟩⟩
    obtain ⟨c, rfl⟩ := List.length_eq_one_iff.1 hl
    exact ⟨trivial, trivial⟩
  | .nil, x, cs, bs, n, h => ⟨[], rfl, List.nil_sublist _, fun i o v _ hv => by simp at hv, fun G H' _ _ => ⟨by rw [h.1]; trivial, fun i o ho => by simp [mkC] at ho⟩⟩
  | .cons a b, x, cs, bs, n, h => by
    obtain ⟨c1, c2, b1, b2, rfl, rfl, ha, hb⟩ := h
    obtain ⟨g1, l1, o1, w1, f1⟩ := mkC_R n ha
    obtain ⟨g2, l2, o2, w2, f2⟩ := mkC_R (n + a.nob) hb
    have hl1 := mkC_len a x.1 n
    refine ⟨g1 ++ g2, by simp [l1, l2, K.nob], by simp only [mkC]; rw [ownsL_app (by rw [hl1, l1])]; exact o1.append o2, fun i o u ho hu => (by
      simp only [mkC] at ho
      by_cases hlt : i < (mkC a x.1 n).2.length
      · rw [List.getElem?_append_left hlt] at ho; rw [List.getElem?_append_left (by omega)] at hu; exact w1 i o u ho hu
      · rw [List.getElem?_append_right (by omega)] at ho; rw [List.getElem?_append_right (by omega)] at hu; exact w2 _ o u ho (by rw [hl1, ← l1]; exact hu)), fun G H' hg hH => ?_⟩
    obtain ⟨p1, p2⟩ := f1 G H' (fun i v hi => hg i v (by rw [List.getElem?_append_left (List.getElem?_eq_some_iff.1 hi).1]; exact hi))
      (fun i o hi => hH i o (by simp only [mkC]; rw [List.getElem?_append_left (List.getElem?_eq_some_iff.1 hi).1]; exact hi))
    obtain ⟨q1, q2⟩ := f2 G H' (fun i v hi => by
        have := hg (a.nob + i) v (by rw [List.getElem?_append_right (by omega), l1, Nat.add_sub_cancel_left]; exact hi)
        rw [Nat.add_assoc]; exact this)
      (fun i o hi => by
        have := hH (a.nob + i) o (by simp only [mkC]; rw [List.getElem?_append_right (by omega), hl1, Nat.add_sub_cancel_left]; exact hi)
        rw [Nat.add_assoc]; exact this)
    refine ⟨p1.app q1, fun i o ho => ?_⟩
    simp only [mkC] at ho
    by_cases hlt : i < (mkC a x.1 n).2.length
    · rw [List.getElem?_append_left hlt] at ho; exact p2 i o ho
    · rw [List.getElem?_append_right (by omega), hl1] at ho
      have := q2 (i - a.nob) o ho
      rw [show n + a.nob + (i - a.nob) = n + i by omega] at this
      exact this

theorem mkI_len (k : K) (x : k.den) (n : Nat) : (mkI k x n).2.length = k.nob := by
  cases k <;> first | rfl | exact mkC_len _ x n

theorem mkI_obs (k : K) (x : k.den) (n : Nat) : (mkI k x n).2 = (mkC k x n).2 := by cases k <;> rfl

theorem mkI_ids (k : K) (x : k.den) (n : Nat) : ∀ j ∈ (mkI k x n).1.ids, n ≤ j ∧ j < n + k.nob := by
  have key : ∀ ls : List L, (∀ l ∈ ls, ∀ j ∈ l.ids, n ≤ j ∧ j < n + k.nob) → ∀ j ∈ (D0.one (headL ls)).ids, n ≤ j ∧ j < n + k.nob := by
    intro ls h j hj
    cases ls with
    | nil => simp [headL, D0.ids, D0.ls, L.ids] at hj
    | cons l r => exact h l (.head _) j (by simpa [headL, D0.ids, D0.ls] using hj)
  cases k with
  | v t => intro j hj; have : (injD t x).ids = [] := injD_ids t x; rw [show (mkI (.v t) x n).1 = injD t x from rfl, this] at hj; cases hj
  | cons a b =>
    intro j hj
    have hj' : j ∈ (D0.agg (mkC (.cons a b) x n).1).ids := hj
    simp only [D0.ids, D0.ls, List.mem_flatMap] at hj'
    obtain ⟨l, hl, hj'⟩ := hj'
    exact (mkC_ids (.cons a b) x n).1 l hl j hj'
  | _ => exact key _ (mkC_ids _ x n).1

/-- The same of a whole value; mkV: how it stands in a slot. -/
theorem mkI_R {k : K} {x : k.den} {cs : List Value} {bs : List Nat} (n : Nat) (h : CR w ok k x cs bs) : ∃ gs : List Value, gs.length = k.nob ∧ (ownsL (mkC k x n).2 gs).Sublist bs ∧ (∀ (i : Nat) o v, (mkC k x n).2[i]? = some o → gs[i]? = some v → ownB o v = blkOf v) ∧
    ∀ (G : Nat → Value) (H' : Nat → Ob), (∀ i v, gs[i]? = some v → G (n + i) = v) → (∀ i o, (mkC k x n).2[i]? = some o → H' (n + i) = o) →
      D0R G H' w ok (mkI k x n).1 (mkV k.isAgg cs) ∧ ∀ i o, (mkC k x n).2[i]? = some o → OB G H' w ok (n + i) o := by
  obtain ⟨gs, h1, h2, h2b, h3⟩ := mkC_R n h
  refine ⟨gs, h1, h2, h2b, fun G H' hg hH => ?_⟩
  obtain ⟨q1, q2⟩ := h3 G H' hg hH
  refine ⟨?_, q2⟩
  have one : ∀ (ls : List L) (cs : List Value), All2 (LR G H' w ok) ls cs → D0R G H' w ok (.one (headL ls)) (mkV false cs) := by
    intro ls cs h
    match ls, cs, h with
    | [], [], _ => exact trivial
    | l :: ls, c :: cs, h => exact h.1
    | [], _ :: _, h => exact h.elim
    | _ :: _, [], h => exact h.elim
  cases k with
  | v t => exact injD_R h.1
  | cons a b => exact ⟨cs.toArray, rfl, q1⟩
  | _ => exact one _ _ q1

theorem mkA_R : ∀ {ks : List K} {x : dens ks} {vs : List Value} {bs : List Nat} (n : Nat), AR w ok ks x vs bs → ∃ gs : List Value, gs.length = (mkA ks x n).2.length ∧ (ownsL (mkA ks x n).2 gs).Sublist bs ∧ (∀ (i : Nat) o v, (mkA ks x n).2[i]? = some o → gs[i]? = some v → ownB o v = blkOf v) ∧
    (∀ (G : Nat → Value) (H' : Nat → Ob), (∀ i v, gs[i]? = some v → G (n + i) = v) → (∀ i o, (mkA ks x n).2[i]? = some o → H' (n + i) = o) →
      All2 (D0R G H' w ok) (mkA ks x n).1 vs ∧ ∀ i o, (mkA ks x n).2[i]? = some o → OB G H' w ok (n + i) o) ∧
    (∀ d ∈ (mkA ks x n).1, ∀ j ∈ d.ids, n ≤ j ∧ j < n + (mkA ks x n).2.length) ∧ ∀ o ∈ (mkA ks x n).2, ∀ j ∈ o.kids, n ≤ j ∧ j < n + (mkA ks x n).2.length
  | [], x, vs, bs, n, h => by
    obtain ⟨rfl, rfl⟩ := h
    exact ⟨[], rfl, List.nil_sublist _, fun i o v _ hv => by simp at hv, fun G H' _ _ => ⟨trivial, fun i o ho => by simp [mkA] at ho⟩, by simp [mkA], by simp [mkA]⟩
  | k :: r, x, vs, bs, n, h => by
    obtain ⟨cs, rest, b1, b2, rfl, rfl, hc, hr⟩ := h
    obtain ⟨g1, l1, o1, w1, f1⟩ := mkI_R n hc
    obtain ⟨g2, l2, o2, w2, f2, i2, j2⟩ := mkA_R (n + k.nob) hr
    have hl1 : (mkC k x.1 n).2.length = k.nob := mkC_len k x.1 n
    have e1 : (mkA (k :: r) x n).2 = (mkC k x.1 n).2 ++ (mkA r x.2 (n + k.nob)).2 := by simp only [mkA, mkI_obs]
    have e0 : (mkA (k :: r) x n).1 = (mkI k x.1 n).1 :: (mkA r x.2 (n + k.nob)).1 := rfl
    rw [e1, e0]
    refine ⟨g1 ++ g2, by simp [l1, l2, hl1], by rw [ownsL_app (by rw [hl1, l1])]; exact o1.append o2, fun i o u ho hu => ?_, fun G H' hg hH => ?_, fun d hd j hj => ?_, fun o ho j hj => ?_⟩
    · by_cases hlt : i < (mkC k x.1 n).2.length
      · rw [List.getElem?_append_left hlt] at ho; rw [List.getElem?_append_left (by omega)] at hu; exact w1 i o u ho hu
      · rw [List.getElem?_append_right (by omega)] at ho; rw [List.getElem?_append_right (by omega)] at hu; exact w2 _ o u ho (by rw [hl1, ← l1]; exact hu)
    · obtain ⟨p1, p2⟩ := f1 G H' (fun i v hi => hg i v (by rw [List.getElem?_append_left (List.getElem?_eq_some_iff.1 hi).1]; exact hi))
        (fun i o hi => hH i o (by rw [List.getElem?_append_left (List.getElem?_eq_some_iff.1 hi).1]; exact hi))
      obtain ⟨q1, q2⟩ := f2 G H' (fun i v hi => by
          have := hg (k.nob + i) v (by rw [List.getElem?_append_right (by omega), l1, Nat.add_sub_cancel_left]; exact hi)
          rw [Nat.add_assoc]; exact this)
        (fun i o hi => by
          have := hH (k.nob + i) o (by rw [List.getElem?_append_right (by omega), hl1, Nat.add_sub_cancel_left]; exact hi)
          rw [Nat.add_assoc]; exact this)
      refine ⟨⟨p1, q1⟩, fun i o ho => ?_⟩
      by_cases hlt : i < (mkC k x.1 n).2.length
      · rw [List.getElem?_append_left hlt] at ho; exact p2 i o ho
      · rw [List.getElem?_append_right (by omega), hl1] at ho
        have := q2 (i - k.nob) o ho
        rw [show n + k.nob + (i - k.nob) = n + i by omega] at this
        exact this
    · rw [List.length_append, hl1]
      rcases List.mem_cons.1 hd with rfl | hd
      · have := mkI_ids k x.1 n j hj; omega
      · have := i2 d hd j hj; omega
    · rw [List.length_append, hl1]
      rcases List.mem_append.1 ho with ho | ho
      · have := (mkC_ids k x.1 n).2 o ho j hj; omega
      · have := j2 o ho j hj; omega

end Go.Proofs.Fr

/- Slots and objects, filled with what comes back. -/
namespace Go.Proofs.Fr
open Go Go.RowKit

variable {P : Program} {B : Bs} {nt : Nat} {fr : Nat → Prop} {s : S} {g : Nat → Value} {a : Act} {w w' : World} {R : Type} {H : Nat → Ob} {ok ok' : Nat → Prop}

def objT (tgs : List Tg) : List Nat := tgs.filterMap fun
  | .obj id => some id
  | .slot _ => none

theorem objT_slot (t : Nat) (tgs : List Tg) : objT (.slot t :: tgs) = objT tgs := rfl
theorem objT_obj (id : Nat) (tgs : List Tg) : objT (.obj id :: tgs) = id :: objT tgs := rfl

/-- An object is of a kind. -/
def fits (k : K) (o : Ob) : Prop :=
  match k with
  | .own E t => ∃ xs : List t.den, o = .row E t xs
  | .io E t => ∃ xs : List t.den, o = .row E t xs
  | .bx T _ => ∃ ls, o = .box T ls
  | _ => False

theorem fits_sh {k : K} {o o' : Ob} {g g' : Nat → Value} {H H' : Nat → Ob} {w w' : World} {ok ok' : Nat → Prop} {id : Nat} (h : fits k o) (h' : fits k o') (hg : g' id = g id) (hO : OB g H w ok id o) (hO' : OB g' H' w' ok' id o') : shO o' = shO o := by
  unfold fits at h h'
  have key : ∀ (E : Nat) (t : Ty) (xs ys : List t.den), o = .row E t xs → o' = .row E t ys → shO o' = shO o := by
    rintro E t xs ys rfl rfl
    obtain ⟨A, c, h1, _⟩ := RowO.slice_ hO
    obtain ⟨A', c', h2, _⟩ := RowO.slice_ hO'
    rw [hg, h1] at h2
    simp only [Value.slice.injEq] at h2
    simp only [shO, h2.2.1]
  cases k with
  | own E t => obtain ⟨xs, e⟩ := h; obtain ⟨ys, e'⟩ := h'; exact key E t xs ys e e'
  | io E t => obtain ⟨xs, e⟩ := h; obtain ⟨ys, e'⟩ := h'; exact key E t xs ys e e'
  | bx T c => obtain ⟨xs, rfl⟩ := h; obtain ⟨ys, rfl⟩ := h'; rfl
  | _ => exact h.elim

theorem fill_keep : ∀ {tgs : List Tg} {ks : List K} {x : dens ks} (e : Nat → D) (H : Nat → Ob) (nx id : Nat), (id < nx ∨ nx + nobP tgs ks ≤ id) → id ∉ objT tgs → (fillS e H nx tgs ks x).2 id = H id
  | [], [], _, _, _, _, _, _, _ => rfl
  | [], _ :: _, _, _, _, _, _, _, _ => rfl
  | .slot _ :: _, [], _, _, _, _, _, _, _ => rfl
  | .obj _ :: _, [], _, _, _, _, _, _, _ => rfl
  | .slot t :: tgs, k :: r, x, e, H, nx, id, h, hn => by
    simp only [nobP] at h
    simp only [fillS]
    rw [fill_keep _ _ _ _ (by omega) (by simpa [objT_slot] using hn)]
    exact (setObs_at _ H nx id).2 (by rw [mkI_len]; omega)
  | .obj q :: tgs, k :: r, x, e, H, nx, id, h, hn => by
    simp only [objT_obj, List.mem_cons, not_or] at hn
    cases k with
    | own E t =>
      simp only [nobP] at h
      simp only [fillS]
      rw [fill_keep _ _ _ _ h hn.2, upd_ne _ _ hn.1]
    | bx T c =>
      simp only [nobP] at h
      simp only [fillS]
      rw [fill_keep _ _ _ _ (by omega) hn.2, upd_ne _ _ hn.1]
      exact (setObs_at _ H nx id).2 (by rw [mkC_len]; omega)
    | _ =>
      simp only [nobP] at h
      simp only [fillS]
      exact fill_keep _ _ _ _ h hn.2

theorem fill_slot : ∀ {tgs : List Tg} {ks : List K} {x : dens ks} (e : Nat → D) (H : Nat → Ob) (nx t : Nat), (Tg.slot t ∉ tgs) → (fillS e H nx tgs ks x).1 t = e t
  | [], [], _, _, _, _, _, _ => rfl
  | [], _ :: _, _, _, _, _, _, _ => rfl
  | .slot _ :: _, [], _, _, _, _, _, _ => rfl
  | .obj _ :: _, [], _, _, _, _, _, _ => rfl
  | .slot q :: tgs, k :: r, x, e, H, nx, t, hn => by
    simp only [List.mem_cons, not_or] at hn
    simp only [fillS]
    rw [fill_slot _ _ _ _ hn.2, upd_ne _ _ fun e => hn.1 (by rw [e])]
  | .obj q :: tgs, k :: r, x, e, H, nx, t, hn => by
    simp only [List.mem_cons, not_or] at hn
    cases k <;> simp only [fillS] <;> exact fill_slot _ _ _ _ hn.2

def tch (tgs : List Tg) (ks : List K) (nx id : Nat) : Prop := (nx ≤ id ∧ id < nx + nobP tgs ks) ∨ id ∈ objT tgs

structure Filled (G : Nat → Value) (tm : Nat → Value) (w : World) (ok : Nat → Prop) (e : Nat → D) (nx : Nat) (tgs : List Tg) (ks : List K) (bs : List Nat) (F : (Nat → D) × (Nat → Ob)) : Prop where
  slot : ∀ t, (F.1 t = e t ∧ Tg.slot t ∉ tgs) ∨ (DR G F.2 w ok (F.1 t) (tm t) ∧ ∀ j ∈ (F.1 t).ids, nx ≤ j ∧ j < nx + nobP tgs ks)
  ob : ∀ id, tch tgs ks nx id → OB G F.2 w ok id (F.2 id) ∧ ∀ j ∈ (F.2 id).kids, nx ≤ j ∧ j < nx + nobP tgs ks
  own : ∀ i k, tch tgs ks nx i → owned G F.2 i = some k → k ∈ bs
  inj : bs.Nodup → ∀ i j k, tch tgs ks nx i → tch tgs ks nx j → owned G F.2 i = some k → owned G F.2 j = some k → i = j
  fit : ∀ (j : Nat) (id : Nat) (k : K), tgs[j]? = some (Tg.obj id) → ks[j]? = some k → fits k (F.2 id)

/-- One more in front. -/
theorem Filled.cons {G tm : Nat → Value} {e e1 : Nat → D} {nx n1 : Nat} {tg : Tg} {tgs : List Tg} {k : K} {ks : List K} {b1 b2 : List Nat} {F : (Nat → D) × (Nat → Ob)} (h : Filled G tm w ok e1 (nx + n1) tgs ks b2 F)
    (hnob : nobP (tg :: tgs) (k :: ks) = n1 + nobP tgs ks)
    (hslot : ∀ t, (e1 t = e t ∧ tg ≠ .slot t) ∨ (DR G F.2 w ok (e1 t) (tm t) ∧ ∀ j ∈ (e1 t).ids, nx ≤ j ∧ j < nx + n1))
    
    (hob : ∀ id, (nx ≤ id ∧ id < nx + n1) ∨ id ∈ objT [tg] → OB G F.2 w ok id (F.2 id) ∧ ∀ j ∈ (F.2 id).kids, nx ≤ j ∧ j < nx + n1)
    (hown : ∀ i q, (nx ≤ i ∧ i < nx + n1) ∨ i ∈ objT [tg] → owned G F.2 i = some q → q ∈ b1)
    (hinj : b1.Nodup → ∀ i j q, ((nx ≤ i ∧ i < nx + n1) ∨ i ∈ objT [tg]) → ((nx ≤ j ∧ j < nx + n1) ∨ j ∈ objT [tg]) → owned G F.2 i = some q → owned G F.2 j = some q → i = j)
    (hfit : ∀ id, tg = .obj id → fits k (F.2 id)) : Filled G tm w ok e nx (tg :: tgs) (k :: ks) (b1 ++ b2) F := by
  have hobj : ∀ id, id ∈ objT (tg :: tgs) ↔ id ∈ objT [tg] ∨ id ∈ objT tgs := by
    intro id
    cases tg with
    | slot t => simp [objT]
    | obj q => simp [objT]
  have split : ∀ id, tch (tg :: tgs) (k :: ks) nx id → ((nx ≤ id ∧ id < nx + n1) ∨ id ∈ objT [tg]) ∨ tch tgs ks (nx + n1) id := by
    intro id hid
    unfold tch at hid ⊢
    rw [hnob, hobj] at hid
    rcases hid with h | h | h
    · by_cases hl : id < nx + n1
      · exact .inl (.inl ⟨h.1, hl⟩)
      · exact .inr (.inl ⟨by omega, by omega⟩)
    · exact .inl (.inr h)
    · exact .inr (.inr h)
  refine ⟨fun t => ?_, fun id hid => ?_, fun i q hi ho => ?_, fun hn i j q hi hj hio hjo => ?_, fun j id k' hj hk => ?_⟩
  · rw [hnob]
    rcases h.slot t with ⟨h1, h1'⟩ | ⟨h1, h2⟩
    · rcases hslot t with ⟨h3, h3'⟩ | ⟨h3, h4⟩
      · exact .inl ⟨h1.trans h3, fun hm => by rcases List.mem_cons.1 hm with h | h; exact h3' h.symm; exact h1' h⟩
      · refine .inr ⟨by rw [h1]; exact h3, fun j hj => ?_⟩
        rw [h1] at hj
        have := h4 j hj; omega
    · refine .inr ⟨h1, fun j hj => ?_⟩
      have := h2 j hj; omega
  · rw [hnob]
    rcases split id hid with h1 | h1
    · obtain ⟨h2, h3⟩ := hob id h1
      exact ⟨h2, fun j hj => by have := h3 j hj; omega⟩
    · obtain ⟨h2, h3⟩ := h.ob id h1
      exact ⟨h2, fun j hj => by have := h3 j hj; omega⟩
  · rcases split i hi with h1 | h1
    · exact List.mem_append.2 (.inl (hown i q h1 ho))
    · exact List.mem_append.2 (.inr (h.own i q h1 ho))
  · obtain ⟨n1', n2', n3'⟩ := List.nodup_append.1 hn
    rcases split i hi with h1 | h1 <;> rcases split j hj with h2 | h2
    · exact hinj n1' i j q h1 h2 hio hjo
    · exact absurd rfl (n3' q (hown i q h1 hio) q (h.own j q h2 hjo))
    · exact absurd rfl (n3' q (hown j q h2 hjo) q (h.own i q h1 hio))
    · exact h.inj n2' i j q h1 h2 hio hjo
  · cases j with
    | zero =>
      simp at hj hk; subst hk
      exact hfit id hj
    | succ j => exact h.fit j id k' (by simpa using hj) (by simpa using hk)

theorem fillS_R : ∀ {tgs : List Tg} {ks : List K} {x : dens ks} {vs : List Value} {bs : List Nat} (e : Nat → D) (H : Nat → Ob) (nx : Nat), AR w ok ks x vs bs → tgs.length = ks.length → (∀ id ∈ objT tgs, id < nx ∨ nx + nobP tgs ks ≤ id) → (objT tgs).Nodup →
    (∀ (j : Nat) id k, tgs[j]? = some (.obj id) → ks[j]? = some k → k.isOb = true) → ∃ gs : List Value, gs.length = nobP tgs ks ∧
    ∀ (G : Nat → Value) (tm : Nat → Value), (∀ i v, gs[i]? = some v → G (nx + i) = v) → (∀ (j : Nat) t v, tgs[j]? = some (.slot t) → vs[j]? = some v → tm t = v) → (∀ (j : Nat) id v, tgs[j]? = some (.obj id) → vs[j]? = some v → G id = v) →
      Filled G tm w ok e nx tgs ks bs (fillS e H nx tgs ks x)
  | [], [], x, vs, bs, e, H, nx, h, _, _, _, _ => by
    refine ⟨[], rfl, fun G tm _ _ _ => ?_⟩
    have hno : ∀ id, ¬ tch [] [] nx id := by
      rintro id (h | h)
      · simp only [nobP] at h; omega
      · cases h
    exact ⟨fun t => .inl ⟨rfl, by simp⟩, fun id hid => absurd hid (hno id), fun i k hi => absurd hi (hno i), fun _ i j k hi => absurd hi (hno i), fun j id k hj => by simp at hj⟩
  | [], _ :: _, _, _, _, _, _, _, _, hl, _, _, _ => by simp at hl
  | _ :: _, [], _, _, _, _, _, _, _, hl, _, _, _ => by simp at hl
  | .slot t :: tgs, k :: r, x, vs, bs, e, H, nx, h, hl, hT, hnd, hk => by
    obtain ⟨cs, rest, b1, b2, rfl, rfl, hc, hr⟩ := h
    obtain ⟨g1, l1, o1, _, f1⟩ := mkI_R nx hc
    obtain ⟨g2, l2, f2⟩ := fillS_R (tgs := tgs) (ks := r) (x := x.2) (upd e t (.v (mkI k x.1 nx).1)) (setObs H nx (mkI k x.1 nx).2) (nx + k.nob) hr (by simpa using hl) (fun id hid => by have := hT id hid; simp only [nobP] at this; omega) hnd (fun j id k' h1 h2 => hk (j + 1) id k' (by simpa using h1) (by simpa using h2))
    refine ⟨g1 ++ g2, by simp [l1, l2, nobP], fun G tm hg ht ho => ?_⟩
    have hG2 : ∀ i v, g2[i]? = some v → G (nx + k.nob + i) = v := fun i v hi => by
      have := hg (k.nob + i) v (by rw [List.getElem?_append_right (by omega), l1, Nat.add_sub_cancel_left]; exact hi)
      rw [Nat.add_assoc]; exact this
    have hG1 : ∀ i v, g1[i]? = some v → G (nx + i) = v := fun i v hi => hg i v (by rw [List.getElem?_append_left (List.getElem?_eq_some_iff.1 hi).1]; exact hi)
    have IH := f2 G tm hG2 (fun j t v h1 h2 => ht (j + 1) t v (by simpa using h1) (by simpa using h2)) (fun j id v h1 h2 => ho (j + 1) id v (by simpa using h1) (by simpa using h2))
    simp only [fillS]
    have hml : (mkC k x.1 nx).2.length = k.nob := mkC_len k x.1 nx
    have hF : ∀ i o, (mkC k x.1 nx).2[i]? = some o → (fillS (upd e t (.v (mkI k x.1 nx).1)) (setObs H nx (mkI k x.1 nx).2) (nx + k.nob) tgs r x.2).2 (nx + i) = o := by
      intro i o hi
      have hlt : i < k.nob := by rw [← hml]; exact (List.getElem?_eq_some_iff.1 hi).1
      rw [fill_keep _ _ _ _ (.inl (by omega)) (fun hm => by have := hT _ hm; simp only [nobP] at this; omega)]
      exact (setObs_at _ H nx (nx + i)).1 i o (by rw [mkI_obs]; exact hi) rfl
    obtain ⟨q1, q2⟩ := f1 G _ hG1 hF
    have at_ : ∀ id, (nx ≤ id ∧ id < nx + k.nob) → ∃ i o v, id = nx + i ∧ (mkC k x.1 nx).2[i]? = some o ∧ g1[i]? = some v ∧ (fillS (upd e t (.v (mkI k x.1 nx).1)) (setObs H nx (mkI k x.1 nx).2) (nx + k.nob) tgs r x.2).2 id = o ∧ G id = v := by
      intro id hid
      have h1 : id - nx < (mkC k x.1 nx).2.length := by omega
      have h2 : id - nx < g1.length := by omega
      have e0 : id = nx + (id - nx) := by omega
      refine ⟨id - nx, _, _, e0, List.getElem?_eq_getElem h1, List.getElem?_eq_getElem h2, ?_, ?_⟩
      · have := hF _ _ (List.getElem?_eq_getElem h1); rw [← e0] at this; exact this
      · have := hG1 _ _ (List.getElem?_eq_getElem h2); rw [← e0] at this; exact this
    refine IH.cons (n1 := k.nob) rfl (fun t' => ?_) (fun id hid => ?_) (fun i q hi ho => ?_) (fun hn i j q hi hj hio hjo => ?_) (fun id hid => by cases hid)
    · by_cases htt : t' = t
      · subst htt
        rw [upd_same]
        refine .inr ⟨?_, mkI_ids k x.1 nx⟩
        rw [ht 0 t' _ rfl rfl]
        exact q1
      · exact .inl ⟨upd_ne _ _ htt, fun e => htt (by cases e; rfl)⟩
    · rcases hid with hid | hid
      · obtain ⟨i, o, v, rfl, h1, h2, h3, h4⟩ := at_ id hid
        rw [h3]
        exact ⟨q2 i o h1, (mkC_ids k x.1 nx).2 o (List.mem_of_getElem? h1)⟩
      · exact absurd hid (by simp [objT])
    · rcases hi with hi | hi
      · obtain ⟨i', o, v, rfl, h1, h2, h3, h4⟩ := at_ i hi
        rw [owned_eq, h3, h4] at ho
        exact o1.subset (ownsL_mem h1 h2 ho)
      · exact absurd hi (by simp [objT])
    · rcases hi with hi | hi
      · rcases hj with hj | hj
        · obtain ⟨i', o, v, rfl, h1, h2, h3, h4⟩ := at_ i hi
          obtain ⟨j', o', v', rfl, h1', h2', h3', h4'⟩ := at_ j hj
          rw [owned_eq, h3, h4] at hio
          rw [owned_eq, h3', h4'] at hjo
          rw [ownsL_inj (hn.sublist o1) h1 h2 hio h1' h2' hjo]
        · exact absurd hj (by simp [objT])
      · exact absurd hi (by simp [objT])
  | .obj id :: tgs, .own E t :: r, x, vs, bs, e, H, nx, h, hl, hT, hnd, hk => by
    obtain ⟨cs, rest, b1, b2, rfl, rfl, hc, hr⟩ := h
    obtain ⟨v, rfl, hrow, rfl⟩ := hc
    have hid : id < nx ∨ nx + nobP tgs r ≤ id := hT id (.head _)
    obtain ⟨hni, hnd'⟩ := List.nodup_cons.1 hnd
    obtain ⟨g2, l2, f2⟩ := fillS_R (tgs := tgs) (ks := r) (x := x.2) e (upd H id (.row E t x.1)) nx hr (by simpa using hl) (fun j hj => hT j (.tail _ hj)) hnd' (fun j id k' h1 h2 => hk (j + 1) id k' (by simpa using h1) (by simpa using h2))
    refine ⟨g2, by simpa [nobP] using l2, fun G tm hg ht ho => ?_⟩
    have IH := f2 G tm hg (fun j t v h1 h2 => ht (j + 1) t v (by simpa using h1) (by simpa using h2)) (fun j id v h1 h2 => ho (j + 1) id v (by simpa using h1) (by simpa using h2))
    simp only [fillS]
    have hF : (fillS e (upd H id (.row E t x.1)) nx tgs r x.2).2 id = .row E t x.1 := by rw [fill_keep _ _ _ _ hid hni, upd_same]
    have hG : G id = v := ho 0 id _ rfl rfl
    refine Filled.cons (n1 := 0) (e1 := e) (by simpa using IH) (by simp [nobP]) (fun t' => .inl ⟨rfl, by simp⟩) (fun j hj => ?_) (fun i q hi ho => ?_) (fun hn i j q hi hj hio hjo => ?_) (fun j hj => ?_)
    · have : j = id := by rcases hj with hj | hj; omega; simpa [objT] using hj
      subst this
      rw [hF]
      exact ⟨by show RowO w ok E t x.1 (G j); rw [hG]; exact hrow, by simp [Ob.kids]⟩
    · have : i = id := by rcases hi with hi | hi; omega; simpa [objT] using hi
      subst this
      rw [owned_eq, hF, hG] at ho
      simpa [ownB] using ho
    · have e1 : i = id := by rcases hi with hi | hi; omega; simpa [objT] using hi
      have e2 : j = id := by rcases hj with hj | hj; omega; simpa [objT] using hj
      rw [e1, e2]
    · cases hj
      exact ⟨x.1, hF⟩
  | .obj id :: tgs, .bx T c :: r, x, vs, bs, e, H, nx, h, hl, hT, hnd, hk => by
    obtain ⟨cs, rest, b1, b2, rfl, rfl, hc, hr⟩ := h
    obtain ⟨kb, arr, b1', rfl, hh, hc, rfl⟩ := hc
    obtain ⟨g1, l1, o1, _, f1⟩ := mkC_R nx hc
    have hid : id < nx ∨ nx + (c.nob + nobP tgs r) ≤ id := hT id (.head _)
    obtain ⟨hni, hnd'⟩ := List.nodup_cons.1 hnd
    obtain ⟨g2, l2, f2⟩ := fillS_R (tgs := tgs) (ks := r) (x := x.2) e (upd (setObs H nx (mkC c x.1 nx).2) id (.box T (mkC c x.1 nx).1)) (nx + c.nob) hr (by simpa using hl) (fun j hj => by have := hT j (.tail _ hj); simp only [nobP] at this; omega) hnd' (fun j id k' h1 h2 => hk (j + 1) id k' (by simpa using h1) (by simpa using h2))
    refine ⟨g1 ++ g2, by simp [l1, l2, nobP], fun G tm hg ht ho => ?_⟩
    have hG2 : ∀ i v, g2[i]? = some v → G (nx + c.nob + i) = v := fun i v hi => by
      have := hg (c.nob + i) v (by rw [List.getElem?_append_right (by omega), l1, Nat.add_sub_cancel_left]; exact hi)
      rw [Nat.add_assoc]; exact this
    have hG1 : ∀ i v, g1[i]? = some v → G (nx + i) = v := fun i v hi => hg i v (by rw [List.getElem?_append_left (List.getElem?_eq_some_iff.1 hi).1]; exact hi)
    have IH := f2 G tm hG2 (fun j t v h1 h2 => ht (j + 1) t v (by simpa using h1) (by simpa using h2)) (fun j id v h1 h2 => ho (j + 1) id v (by simpa using h1) (by simpa using h2))
    simp only [fillS]
    have hml : (mkC c x.1 nx).2.length = c.nob := mkC_len c x.1 nx
    have hFid : (fillS e (upd (setObs H nx (mkC c x.1 nx).2) id (.box T (mkC c x.1 nx).1)) (nx + c.nob) tgs r x.2).2 id = .box T (mkC c x.1 nx).1 := by
      rw [fill_keep _ _ _ _ (by omega) hni, upd_same]
    have hGid : G id = .pointer (some ⟨kb, 0, none⟩) := ho 0 id _ rfl rfl
    have hF : ∀ i o, (mkC c x.1 nx).2[i]? = some o → (fillS e (upd (setObs H nx (mkC c x.1 nx).2) id (.box T (mkC c x.1 nx).1)) (nx + c.nob) tgs r x.2).2 (nx + i) = o := by
      intro i o hi
      have hlt : i < c.nob := by rw [← hml]; exact (List.getElem?_eq_some_iff.1 hi).1
      rw [fill_keep _ _ _ _ (.inl (by omega)) (fun hm => by have := hT _ (.tail _ hm); simp only [nobP] at this; omega), upd_ne _ _ (by omega)]
      exact (setObs_at _ H nx (nx + i)).1 i o hi rfl
    obtain ⟨q1, q2⟩ := f1 G _ hG1 hF
    have at_ : ∀ j, (nx ≤ j ∧ j < nx + c.nob) → ∃ i o v, j = nx + i ∧ (mkC c x.1 nx).2[i]? = some o ∧ g1[i]? = some v ∧ (fillS e (upd (setObs H nx (mkC c x.1 nx).2) id (.box T (mkC c x.1 nx).1)) (nx + c.nob) tgs r x.2).2 j = o ∧ G j = v := by
      intro j hj
      have h1 : j - nx < (mkC c x.1 nx).2.length := by omega
      have h2 : j - nx < g1.length := by omega
      have e0 : j = nx + (j - nx) := by omega
      refine ⟨j - nx, _, _, e0, List.getElem?_eq_getElem h1, List.getElem?_eq_getElem h2, ?_, ?_⟩
      · have := hF _ _ (List.getElem?_eq_getElem h1); rw [← e0] at this; exact this
      · have := hG1 _ _ (List.getElem?_eq_getElem h2); rw [← e0] at this; exact this
    have hmo : ∀ j, j ∈ objT [.obj id] ↔ j = id := by simp [objT]
    have hoid : owned G (fillS e (upd (setObs H nx (mkC c x.1 nx).2) id (.box T (mkC c x.1 nx).1)) (nx + c.nob) tgs r x.2).2 id = some kb := by
      rw [owned_eq, hFid, hGid]; rfl
    refine IH.cons (n1 := c.nob) (e := e) rfl (fun t' => .inl ⟨rfl, by simp⟩) (fun j hj => ?_) (fun i q hi ho => ?_) (fun hn i j q hi hj hio hjo => ?_) (fun j hj => ?_)
    · rcases hj with hj | hj
      · obtain ⟨i, o, v, rfl, h1, h2, h3, h4⟩ := at_ j hj
        rw [h3]
        exact ⟨q2 i o h1, (mkC_ids c x.1 nx).2 o (List.mem_of_getElem? h1)⟩
      · have := (hmo j).1 hj
        subst this
        rw [hFid]
        refine ⟨⟨kb, arr, hGid, hh, q1⟩, fun q hq => ?_⟩
        obtain ⟨l, hl, hq⟩ := List.mem_flatMap.1 hq
        exact (mkC_ids c x.1 nx).1 l hl q hq
    · rcases hi with hi | hi
      · obtain ⟨i', o, v, rfl, h1, h2, h3, h4⟩ := at_ i hi
        rw [owned_eq, h3, h4] at ho
        exact .tail _ (o1.subset (ownsL_mem h1 h2 ho))
      · have := (hmo i).1 hi
        subst this
        rw [hoid] at ho; cases ho; exact .head _
    · obtain ⟨hn1, hn2⟩ := List.nodup_cons.1 hn
      rcases hi with hi | hi <;> rcases hj with hj | hj
      · obtain ⟨i', o, v, rfl, h1, h2, h3, h4⟩ := at_ i hi
        obtain ⟨j', o', v', rfl, h1', h2', h3', h4'⟩ := at_ j hj
        rw [owned_eq, h3, h4] at hio
        rw [owned_eq, h3', h4'] at hjo
        rw [ownsL_inj (hn2.sublist o1) h1 h2 hio h1' h2' hjo]
      · exfalso
        have := (hmo j).1 hj
        subst this
        rw [hoid] at hjo; cases hjo
        obtain ⟨i', o, v, rfl, h1, h2, h3, h4⟩ := at_ i hi
        rw [owned_eq, h3, h4] at hio
        exact hn1 (o1.subset (ownsL_mem h1 h2 hio))
      · exfalso
        have := (hmo i).1 hi
        subst this
        rw [hoid] at hio; cases hio
        obtain ⟨i', o, v, rfl, h1, h2, h3, h4⟩ := at_ j hj
        rw [owned_eq, h3, h4] at hjo
        exact hn1 (o1.subset (ownsL_mem h1 h2 hjo))
      · rw [(hmo i).1 hi, (hmo j).1 hj]
    · cases hj
      exact ⟨_, hFid⟩
  | .obj id :: tgs, .v t :: r, x, vs, bs, e, H, nx, h, hl, hT, hnd, hk => by have := hk 0 id _ rfl rfl; cases this
  | .obj id :: tgs, .io E t :: r, x, vs, bs, e, H, nx, h, hl, hT, hnd, hk => by have := hk 0 id _ rfl rfl; cases this
  | .obj id :: tgs, .fn f c :: r, x, vs, bs, e, H, nx, h, hl, hT, hnd, hk => by have := hk 0 id _ rfl rfl; cases this
  | .obj id :: tgs, .np :: r, x, vs, bs, e, H, nx, h, hl, hT, hnd, hk => by have := hk 0 id _ rfl rfl; cases this
  | .obj id :: tgs, .mb T c :: r, x, vs, bs, e, H, nx, h, hl, hT, hnd, hk => by have := hk 0 id _ rfl rfl; cases this
  | .obj id :: tgs, .nil :: r, x, vs, bs, e, H, nx, h, hl, hT, hnd, hk => by have := hk 0 id _ rfl rfl; cases this
  | .obj id :: tgs, .cons a b :: r, x, vs, bs, e, H, nx, h, hl, hT, hnd, hk => by have := hk 0 id _ rfl rfl; cases this

end Go.Proofs.Fr

/- Calls: what a contract says, and what it is good for. -/
namespace Go.Proofs.Fr
open Go Go.RowKit

variable {P : Program} {B : Bs} {nt : Nat} {fr : Nat → Prop} {s : S} {g : Nat → Value} {a : Act} {w w' : World} {R : Type} {H : Nat → Ob} {ok ok' : Nat → Prop}

def retV (rs : List Value) : Value := match rs with
  | [v] => v
  | rs => .tuple rs.toArray

/-- The values that are lent. -/
def lvC : (k : K) → List Value → List Value
  | .io .., cs => match cs with
    | v :: _ => [v]
    | _ => []
  | .bx .., cs => match cs with
    | v :: _ => [v]
    | _ => []
  | .fn _ c, cs => match cs with
    | .func _ _ caps :: _ => lvC c caps.toList
    | _ => []
  | .cons a b, cs => lvC a cs ++ lvC b (cs.drop a.sz)
  | _, _ => []

/-- The cells of an argument. -/
def argC (k : K) (v : Value) : List Value :=
  match k, v with
  | .cons .., .agg cs => cs.toList
  | _, v => [v]

def lvA : List K → List Value → List Value
  | k :: r, v :: vs => lvC k (argC k v) ++ lvA r vs
  | _, _ => []

structure Sound (P : Program) (f : Nat) (sp : Sp) : Prop where
  ent : ∀ args w, (callFunc f args).run P w = .ok (.enter f args) w
  run : ∀ x y, sp.sem x = some y → ∀ (w : World) (vs : List Value) (ok : Nat → Prop) (bs : List Nat), (∀ k, ok k → k < w.heap.size) → AR w ok sp.ins x vs bs → bs.Nodup → (∀ b ∈ bs, ¬ ok b) →
    Calls P f vs.toArray w fun e w' => ∃ rs bs' ok', e = .returned (retV rs) ∧ rs.length = sp.outs.length ∧ AR w' ok' (sp.outs ++ backs sp.ins) y (rs ++ lvA sp.ins vs) bs' ∧ bs'.Nodup ∧ (∀ b ∈ bs', b ∈ bs ∨ w.heap.size ≤ b) ∧
      (∀ k, ok' k → (ok k ∨ k ∈ bs ∨ w.heap.size ≤ k) ∧ k < w'.heap.size ∧ k ∉ bs') ∧ BelowO (fun k => k ∈ bs ∨ w.heap.size ≤ k) w w'
  idn : ∀ n, sp.idN = some n → ∀ (w : World) (cs : Array Value), cs.size = n → (∀ u ∈ cs.toList, u.oneCell' = true) → Calls P f #[.agg cs] w fun e w' => e = .returned (.agg cs) ∧ Below w.heap.size w w'

theorem BelowO.below {n : Nat} {w w' : World} (hn : n = w.heap.size) (h : BelowO (fun k => k ∈ ([] : List Nat) ∨ n ≤ k) w w') : Below w.heap.size w w' :=
  ⟨h.os, h.tape, h.output, h.size, fun k hk => h.block k hk (by simp; omega)⟩

theorem lentC_nil (Hv : Nat → Ob) : ∀ c : K, lentC Hv c [] = []
  | .v _ => rfl
  | .own _ _ => rfl
  | .io _ _ => rfl
  | .bx _ _ => rfl
  | .fn _ _ => rfl
  | .np => rfl
  | .mb _ _ => rfl
  | .nil => rfl
  | .cons a b => by simp only [lentC, List.drop_nil, lentC_nil Hv a, lentC_nil Hv b, List.append_nil]

section lent
variable {Hv : Nat → Ob}
theorem lentC_R (hv : ∀ id, Hv id = .gone ∨ Hv id = H id) (hobj : ∀ id, OB g H w ok id (H id)) :
    ∀ {k : K} {ls r : List L} {x : k.den} {fro lent : List Nat} {cs : List Value}, pkC Hv k ls = some (x, r, fro, lent) → All2 (LR g H w ok) ls cs →
      (lentC Hv k ls).Sublist lent ∧ (lentC Hv k ls).length = k.bks.length ∧ lvC k cs = (lentC Hv k ls).map g ∧ ∀ (j : Nat) id k', (lentC Hv k ls)[j]? = some id → k.bks[j]? = some k' → fits k' (H id) ∧ k'.isOb = true := by
  have hvi : ∀ id o, Hv id = o → o ≠ .gone → H id = o := fun id o h hne => by rcases hv id with e | e; exact absurd (e.symm.trans h).symm hne; exact e.symm.trans h
  intro k
  induction k with
  | v t =>
    intro ls r x fro lent cs h ha
    exact ⟨List.nil_sublist _, rfl, rfl, fun j id k' h1 => by simp [lentC] at h1⟩
  | own E t =>
    intro ls r x fro lent cs h ha
    exact ⟨List.nil_sublist _, rfl, rfl, fun j id k' h1 => by simp [lentC] at h1⟩
  | io E t =>
    intro ls r x fro lent cs h ha
    simp only [pkC] at h
    split at h
    · rename_i id q'
      split at h
      · rename_i E' t' xs hH
        split at h
        · rename_i ht; subst ht
          split at h
          · rename_i hE; subst hE
            cases h
            obtain ⟨b, q, rfl, hb, hq⟩ := ha.cons_l
            have hHi := hvi _ _ hH (by simp)
            have hbg : b = g id := hb.2 t' xs.length (by rw [hHi]; rfl)
            refine ⟨List.Sublist.refl _, rfl, by simp [lvC, lentC, hbg], fun j i k' h1 h2 => ?_⟩
            cases j with
            | zero =>
              simp [lentC] at h1; subst h1
              simp [K.bks] at h2; subst h2
              exact ⟨⟨xs, hHi⟩, rfl⟩
            | succ j => simp [lentC] at h1
          · cases h
        · cases h
      · cases h
    · cases h
  | bx T c ih =>
    intro ls r x fro lent cs h ha
    simp only [pkC] at h
    split at h
    · rename_i id q'
      split at h
      · rename_i T' ls' hH
        split at h
        · rename_i hT; subst hT
          split at h
          · rename_i x' fro' lent' hp
            cases h
            obtain ⟨b, q, rfl, hb, hq⟩ := ha.cons_l
            have hHi := hvi _ _ hH (by simp)
            have ho := hobj id
            rw [hHi] at ho
            obtain ⟨kb, arr, hg, hh, hall⟩ := ho
            obtain ⟨kb', hg', hbv⟩ := hb.2 (.nil, 0) (by rw [hHi]; rfl)
            refine ⟨by simp [lentC], rfl, ?_, fun j i k' h1 h2 => ?_⟩
            · simp only [lvC, lentC, List.map_cons, List.map_nil]
              rw [hbv, hg']
            · cases j with
              | zero =>
                simp [lentC] at h1; subst h1
                simp [K.bks] at h2; subst h2
                exact ⟨⟨ls', hHi⟩, rfl⟩
              | succ j => simp [lentC] at h1
          · cases h
        · cases h
      · cases h
    · cases h
  | fn f c ih =>
    intro ls r x fro lent cs h ha
    simp only [pkC] at h
    split at h
    · rename_i f' q'
      split at h
      · rename_i hff; subst hff
        split at h
        · rename_i x' fro' lent' hp
          cases h
          obtain ⟨b, q, rfl, hb, hq⟩ := ha.cons_l
          obtain ⟨h1, h2, h3, h4⟩ := ih (cs := []) hp trivial
          rw [lentC_nil] at h1 h2 h3 h4
          have e1 : lentC Hv (.fn f' c) (.fn f' :: r) = [] := rfl
          rw [e1]
          refine ⟨h1, h2, ?_, h4⟩
          rw [show b = _ from hb]
          exact h3
        · cases h
      · cases h
    · rename_i id q'
      split at h
      · rename_i f' ls' hH
        split at h
        · rename_i hff; subst hff
          split at h
          · rename_i x' fro' lent' hp
            cases h
            obtain ⟨b, q, rfl, hb, hq⟩ := ha.cons_l
            have hHi := hvi _ _ hH (by simp)
            have ho := hobj id
            rw [hHi] at ho
            obtain ⟨caps, hg, hall⟩ := ho
            have hbg : b = g id := hb.2 .nil 0 (by rw [hHi]; rfl)
            obtain ⟨h1, h2, h3, h4⟩ := ih hp hall
            have e1 : lentC Hv (.fn f' c) (.cl id :: r) = lentC Hv c ls' := by simp only [lentC, hH]
            rw [e1]
            refine ⟨h1, h2, ?_, h4⟩
            simp only [lvC, hbg, hg]
            exact h3
          · cases h
        · cases h
      · cases h
    · cases h
  | np =>
    intro ls r x fro lent cs h ha
    exact ⟨List.nil_sublist _, rfl, rfl, fun j id k' h1 => by simp [lentC] at h1⟩
  | mb T c =>
    intro ls r x fro lent cs h ha
    exact ⟨List.nil_sublist _, rfl, rfl, fun j id k' h1 => by simp [lentC] at h1⟩
  | nil =>
    intro ls r x fro lent cs h ha
    exact ⟨List.nil_sublist _, rfl, rfl, fun j id k' h1 => by simp [lentC] at h1⟩
  | cons a b iha ihb =>
    intro ls r x fro lent cs h ha
    simp only [pkC] at h
    split at h
    · rename_i x1 r1 f1 l1 h1
      split at h
      · rename_i y r2 f2 l2 h2
        cases h
        obtain ⟨c1, c2, m1, rfl, rfl, e1, a1⟩ := pkC_R (ok' := fun _ => True) hv hobj (fun _ _ => trivial) h1 ha (fun _ _ _ _ => trivial)
        obtain ⟨p1, p2, p3, p4⟩ := iha h1 ha
        obtain ⟨q1, q2, q3, q4⟩ := ihb h2 a1
        have hm : m1.length = a.sz := by
          have h5 := ha.len
          have h6 := a1.len
          have h7 := e1.len
          simp only [List.length_append] at h5
          omega
        have hd1 : (m1 ++ r1).drop a.sz = r1 := by rw [← hm, List.drop_left]
        have hd2 : (c1 ++ c2).drop a.sz = c2 := by rw [← e1.len, List.drop_left]
        simp only [lentC, lvC, hd1, hd2, K.bks]
        refine ⟨p1.append q1, by simp [p2, q2], by rw [p3, q3, List.map_append], fun j id k' h3 h4 => ?_⟩
        by_cases hj : j < (lentC Hv a (m1 ++ r1)).length
        · rw [List.getElem?_append_left hj] at h3
          rw [List.getElem?_append_left (by omega)] at h4
          exact p4 j id k' h3 h4
        · rw [List.getElem?_append_right (by omega)] at h3
          rw [List.getElem?_append_right (by omega)] at h4
          exact q4 _ id k' h3 (by rw [p2]; exact h4)
      · cases h
    · cases h

theorem lentA_R (hv : ∀ id, Hv id = .gone ∨ Hv id = H id) (hobj : ∀ id, OB g H w ok id (H id)) :
    ∀ {ks : List K} {ds : List D} {vs : List Value} {x : dens ks} {fro lent : List Nat}, pkA Hv ks ds = some (x, fro, lent) → All2 (DR g H w ok) ds vs →
      (lentA Hv ks ds).Sublist lent ∧ (lentA Hv ks ds).length = (backs ks).length ∧ lvA ks vs = (lentA Hv ks ds).map g ∧ ∀ (j : Nat) id k', (lentA Hv ks ds)[j]? = some id → (backs ks)[j]? = some k' → fits k' (H id) ∧ k'.isOb = true
  | [], ds, vs, x, fro, lent, h, ha => by
    simp only [pkA] at h
    split at h
    · cases h
      exact ⟨List.nil_sublist _, rfl, rfl, fun j id k' h1 => by simp [lentA] at h1⟩
    · cases h
  | k :: r, ds, vs, x, fro, lent, h, ha => by
    simp only [pkA] at h
    split at h
    · rename_i d ds
      split at h
      · rename_i hagg
        split at h
        · rename_i x1 f1 l1 h1
          split at h
          · rename_i y f2 l2 h2
            cases h
            obtain ⟨v, rest, rfl, hd, hrest⟩ := ha.cons_l
            have key : ∃ cs, All2 (LR g H w ok) d.ls cs ∧ lvC k (argC k v) = lvC k cs := by
              cases d with
              | one l =>
                refine ⟨[v], ⟨hd, trivial⟩, ?_⟩
                cases k with
                | cons a b => cases hagg
                | _ => rfl
              | agg ls =>
                obtain ⟨cs, hcv, hcs⟩ := (show D0R g H w ok (.agg ls) v from hd)
                refine ⟨cs.toList, hcs, ?_⟩
                cases k with
                | v t => rfl
                | cons a b => rw [hcv]; rfl
                | _ => cases hagg
            obtain ⟨cs, hcs, hcl⟩ := key
            obtain ⟨p1, p2, p3, p4⟩ := lentC_R hv hobj h1 hcs
            obtain ⟨q1, q2, q3, q4⟩ := lentA_R hv hobj h2 hrest
            simp only [lentA, lvA, backs, List.flatMap_cons]
            have hb2 : List.flatMap K.bks r = backs r := rfl
            rw [hb2]
            refine ⟨p1.append q1, by simp [p2, q2], by rw [hcl, p3, q3, List.map_append], fun j id k' h3 h4 => ?_⟩
            by_cases hj : j < (lentC Hv k d.ls).length
            · rw [List.getElem?_append_left hj] at h3
              rw [List.getElem?_append_left (by omega)] at h4
              exact p4 j id k' h3 h4
            · rw [List.getElem?_append_right (by omega)] at h3
              rw [List.getElem?_append_right (by omega)] at h4
              exact q4 _ id k' h3 (by rw [p2]; exact h4)
          · cases h
        · cases h
      · cases h
    · cases h
end lent
end Go.Proofs.Fr

/- Calls of any kind, of what may be lent; calls of plain values alone. -/
namespace Go.Proofs.Fr
open Go Go.RowKit

variable {P : Program} {B : Bs} {nt : Nat} {fr : Nat → Prop} {s : S} {g : Nat → Value} {a : Act} {w w' : World} {R : Type} {H : Nat → Ob} {ok ok' : Nat → Prop}

theorem goneAll_at : ∀ (l : List Nat) (H : Nat → Ob) (id : Nat), (id ∈ l → goneAll H l id = .gone) ∧ (id ∉ l → goneAll H l id = H id)
  | [], _, _ => ⟨fun h => absurd h (by simp), fun _ => rfl⟩
  | i :: r, H, id => by
    have h := goneAll_at r (upd H i .gone) id
    simp only [goneAll]
    constructor
    · intro hm
      by_cases hr : id ∈ r
      · exact h.1 hr
      · rw [h.2 hr]
        have e : id = i := by simpa [hr] using hm
        subst e; exact upd_same _ _ _
    · intro hm
      have e1 : id ≠ i := fun e => hm (by rw [e]; exact .head _)
      rw [h.2 fun h' => hm (.tail _ h'), upd_ne _ _ e1]

theorem nodupB_spec : ∀ {l : List Nat}, nodupB l = true → l.Nodup
  | [], _ => List.nodup_nil
  | a :: r, h => by
    simp only [nodupB, Bool.and_eq_true, Bool.not_eq_true'] at h
    exact List.nodup_cons.2 ⟨fun hm => by have := h.1; simp [hm] at this, nodupB_spec h.2⟩

theorem lentOk_spec {fro lent : List Nat} (h : lentOk fro lent = true) : lent.Nodup ∧ ∀ id ∈ lent, id ∉ fro := by
  unfold lentOk at h
  simp only [Bool.and_eq_true] at h
  refine ⟨nodupB_spec h.1, fun id hid hf => ?_⟩
  have := List.all_eq_true.1 h.2 id hid
  simp [hf] at this

/-- Rows and boxes that stay as they are from now on. -/
theorem Rel.freeze (hr : Rel B nt fr s g a w) {ids : List Nat} (hids : ∀ id ∈ ids, ¬ fr id) (hrow : ∀ id ∈ ids, (s.H id).rb = true) (dt : List Nat) :
    Rel B nt fr { s with H := frz s.H ids, dt := dt } g a w ∧ (∀ k, okB B g s.H w k → okB B g (frz s.H ids) w k) ∧ (∀ id ∈ ids, ∀ k, owned g s.H id = some k → okB B g (frz s.H ids) w k) := by
  have hown : ∀ id k, owned g (frz s.H ids) id = some k → owned g s.H id = some k ∧ id ∉ ids := by
    intro id k h
    by_cases hi : id ∈ ids
    · rw [owned_eq, (frz_at ids s.H id).1 hi] at h
      have := hrow id hi
      cases e : s.H id <;> rw [e] at h this <;> first | (cases h; done) | (cases this; done)
    · exact ⟨by simpa only [owned, (frz_at ids s.H id).2 hi] using h, hi⟩
  have ok1 : ∀ k, okB B g s.H w k → okB B g (frz s.H ids) w k := fun k hk => ⟨hk.1, fun i hi => hk.2.1 i (hown i k hi).1, hk.2.2⟩
  have ok2 : ∀ id ∈ ids, ∀ k, owned g s.H id = some k → okB B g (frz s.H ids) w k := by
    intro id hi k hk
    refine ⟨OB.lt (hr.objs id) rfl hk, fun i h => ?_, B.al k (hr.base id k hk)⟩
    obtain ⟨h1, h2⟩ := hown i k h
    exact h2 (hr.disj i id k h1 hk ▸ hi)
  have hsh : ∀ id, shO (frz s.H ids id) = shO (s.H id) := by
    intro id
    by_cases hi : id ∈ ids
    · rw [(frz_at ids s.H id).1 hi]; cases s.H id <;> rfl
    · rw [(frz_at ids s.H id).2 hi]
  refine ⟨?_, ok1, ok2⟩
  refine Rel.step hr (fun id => id ∈ ids) rfl (fun _ h => h) (fun id h => ⟨(frz_at ids s.H id).2 h, rfl⟩) (fun id _ _ => .inr ⟨hsh id, rfl⟩) (fun id k h1 h2 => .inr ⟨id, h1, (hown id k h2).1⟩) (fun i j k hi _ h _ => absurd hi (hown i k h).2)
    (fun _ _ _ => rfl) rfl rfl rfl (Nat.le_refl _) (fun hk hcm id ht => ?_) (fun id ht j hj hf => ?_) (fun id hf => ?_)
  · show OB _ _ _ _ id (frz s.H ids id)
    have ho := hr.objs id
    rw [(frz_at ids s.H id).1 ht]
    cases e : s.H id with
    | gone => trivial
    | box T ls =>
      rw [e] at ho
      obtain ⟨q, arr, hg', hh, ha⟩ := ho
      have hoq : owned g s.H id = some q := by simp [owned, e, hg', blkOf]
      refine ⟨q, arr, hg', hh, ok2 id ht q hoq, ha.mono_mem fun l v hl hlr => LR.mono hk (fun j hj => hcm j (hr.kold id j ?_)) hlr⟩
      rw [e]; exact List.mem_flatMap.2 ⟨l, hl, hj⟩
    | fbx T ls =>
      rw [e] at ho
      obtain ⟨q, arr, hg', hh, hq, ha⟩ := ho
      refine ⟨q, arr, hg', hh, ok1 q hq, ha.mono_mem fun l v hl hlr => LR.mono hk (fun j hj => hcm j (hr.kold id j ?_)) hlr⟩
      rw [e]; exact List.mem_flatMap.2 ⟨l, hl, hj⟩
    | row E t xs =>
      rw [e] at ho
      refine ⟨?_, RowO.zero0 ho⟩
      exact En.mono (t := .sl E t) (ok := fun k => okB B g s.H w k ∨ owned g s.H id = some k) (fun k hk' => by
        rcases hk' with hk' | hk'
        · exact ⟨ok1 k hk', rfl⟩
        · exact ⟨ok2 id ht k hk', rfl⟩) (RowO.en ho (fun _ => .inl) fun k hk' => .inr (by simpa [owned, e] using hk'))
    | fr E t xs =>
      rw [e] at ho
      exact ⟨En.mono (t := .sl E t) hk ho.1, ho.2⟩
    | clo f ls => have := hrow id ht; rw [e] at this; cases this
  · have hj' : j ∈ (frz s.H ids id).kids := hj
    rw [(frz_at ids s.H id).1 ht] at hj'
    refine hr.kold id j ?_ hf
    cases e : s.H id <;> rw [e] at hj' <;> exact hj'
  · show frz s.H ids id = .gone
    have h0 := hr.fresh id hf
    rw [(frz_at ids s.H id).2 (fun h => hids id h hf)]
    exact h0

theorem tgSlots_get (n j : Nat) (tg : Tg) (l : List Nat) (h : (retTg n l)[j]? = some tg) : (j < n ∧ tg = .slot j) ∨ (n ≤ j ∧ ∃ id, l[j - n]? = some id ∧ tg = .obj id) := by
  unfold retTg tgSlots at h
  by_cases hj : j < n
  · rw [List.getElem?_append_left (by simpa using hj)] at h
    simp [hj] at h
    exact .inl ⟨hj, h.symm⟩
  · rw [List.getElem?_append_right (by simp; omega)] at h
    simp only [List.length_map, List.length_range, List.getElem?_map] at h
    cases e : l[j - n]? with
    | none => rw [e] at h; simp at h
    | some id => rw [e] at h; simp at h; exact .inr ⟨by omega, id, rfl, h.symm⟩

theorem objT_app (a b : List Tg) : objT (a ++ b) = objT a ++ objT b := by unfold objT; exact List.filterMap_append
theorem objT_slots : ∀ l : List Nat, objT (l.map .slot) = []
  | [] => rfl
  | a :: l => by rw [List.map_cons, objT_slot, objT_slots l]
theorem objT_objs : ∀ l : List Nat, objT (l.map .obj) = l
  | [] => rfl
  | a :: l => by rw [List.map_cons, objT_obj, objT_objs l]
theorem objT_retTg (n : Nat) (l : List Nat) : objT (retTg n l) = l := by
  unfold retTg tgSlots
  rw [objT_app, objT_slots, objT_objs, List.nil_append]

def WExt (id0 : Nat) (s s1 : S) : Prop := s1.e = s.e ∧ s1.nx = s.nx ∧ ∃ new, s1.dt = new ++ s.dt ∧ ∀ id, id < id0 → id ∉ new → s1.H id = s.H id

def WGoal (P : Program) (B : Bs) (nt : Nat) (fr : Nat → Prop) (id0 : Nat) (s : S) (a : Act) (w : World) (o : Oper) (k : S → D → Option R) (r : R) : Prop :=
  ∃ s1 d, k s1 d = some r ∧ WExt id0 s s1 ∧ ∀ (next : Act → World → Prop) (Q : Exit → Act → World → Prop), (∀ g' a' w', Rel B nt (less fr id0) (s1.put o.dst d) g' a' w' → next a' w') → o.wp P a w next Q

theorem resD_R {G : Nat → Value} {H' : Nat → Ob} {ds : List D0} {rs : List Value} (h : All2 (D0R G H' w ok) ds rs) : DR G H' w ok (resD ds) (retV rs) ∧ ∀ id ∈ (resD ds).ids, ∃ d ∈ ds, id ∈ d.ids := by
  match ds, rs, h with
  | [], [], _ => exact ⟨⟨#[], rfl, trivial⟩, by simp [resD, D.ids]⟩
  | [d], [v], h => exact ⟨h.1, fun id hi => ⟨d, .head _, hi⟩⟩
  | d1 :: d2 :: ds, v1 :: v2 :: vs, h => exact ⟨⟨_, rfl, by simpa using h⟩, fun id hi => by simpa [resD, D.ids] using hi⟩
  | [], _ :: _, h => exact h.elim
  | _ :: _, [], h => exact h.elim
  | [_], _ :: _ :: _, h => exact h.2.elim
  | _ :: _ :: _, [_], h => exact h.2.elim

theorem args_R (hr : Rel B nt fr s g a w) : ∀ (xs : List Operand), All2 (DR g s.H w (okB B g s.H w)) (xs.map (evD s.e)) (xs.map a.eval) ∧ ∀ d ∈ xs.map (evD s.e), ∀ id ∈ d.ids, ¬ fr id
  | [] => ⟨trivial, by simp⟩
  | x :: xs => by
    obtain ⟨h1, h2⟩ := ev_R hr x
    obtain ⟨h3, h4⟩ := args_R hr xs
    refine ⟨⟨h1, h3⟩, fun d hd => ?_⟩
    rcases List.mem_cons.1 hd with rfl | hd
    · exact h2
    · exact h4 d hd

section
variable {o : Oper} {id0 : Nat} {k : S → D → Option R} {r : R} {hb : Nat → Ob}

/-- A call, by its contract. -/
theorem w_call1 (hhb : ∀ id, hb id = .gone ∨ hb id = s.H id) (hr : Rel B nt fr s g a w) (hfr : ∀ j, id0 ≤ j → j < id0 + 8 → fr j) (hd : dstOk nt o.dst = true) {gf : Nat} {vs : List Value}
    (hrun : (execOp a.eval o).run P w = .ok (.enter gf vs.toArray) w) {ds : List D} (hds : All2 (DR g s.H w (okB B g s.H w)) ds vs) (hdi : ∀ d ∈ ds, ∀ id ∈ d.ids, ¬ fr id) {sp : Sp} (hsp : Sound P gf sp)
    {x : dens sp.ins} {fro lent : List Nat} (hx : pkA hb sp.ins ds = some (x, fro, lent)) (hlo : lentOk fro lent = true)
    {y : dens (sp.outs ++ backs sp.ins)} (hy : sp.sem x = some y) {ks : List K} {z : dens ks} (hks : ks.length = (sp.outs ++ backs sp.ins).length) (hsp2 : ∀ (w : World) ok vs bs, AR w ok (sp.outs ++ backs sp.ins) y vs bs → AR w ok ks z vs bs)
    (hbk : ∀ (j : Nat) k, (backs sp.ins)[j]? = some k → k.isOb = true → ks[sp.outs.length + j]? = some k) (h8 : nobP (retTg sp.outs.length (lentA hb sp.ins ds)) ks ≤ 8)
    (hv : k { s with H := (fillS (fun _ => .one .skip) (goneAll (frz s.H fro) lent) id0 (retTg sp.outs.length (lentA hb sp.ins ds)) ks z).2, dt := lent ++ fro ++ s.dt }
      (resD ((List.range sp.outs.length).map fun i => d0Of ((fillS (fun _ => .one .skip) (goneAll (frz s.H fro) lent) id0 (retTg sp.outs.length (lentA hb sp.ins ds)) ks z).1 i))) = some r) : WGoal P B nt fr id0 s a w o k r := by
  obtain ⟨hln, hlf⟩ := lentOk_spec hlo
  obtain ⟨i1, i2⟩ := pkA_ids hhb hr.kold hx hdi
  obtain ⟨hrF, okF1, okF2⟩ := hr.freeze (ids := fro) (fun id h => (i1 id h).1) (fun id h => (i1 id h).2) (lent ++ fro ++ s.dt)
  obtain ⟨la1, la2, la3, la4⟩ := lentA_R hhb hr.objs hx hds
  let okc : Nat → Prop := okB B g (frz s.H fro) w
  have hargs : AR w okc sp.ins x vs (lent.filterMap (owned g s.H)) := pkA_R hhb hr.objs okF1 hx hds okF2
  have hfl : ∀ id ∈ lent, frz s.H fro id = s.H id := fun id h => (frz_at fro s.H id).2 (hlf id h)
  have hbn : ∀ {l : List Nat}, l.Nodup → (l.filterMap (owned g s.H)).Nodup := by
    intro l
    induction l with
    | nil => intro _; exact List.nodup_nil
    | cons i l ih =>
      intro hn
      obtain ⟨n1, n2⟩ := List.nodup_cons.1 hn
      rw [List.filterMap_cons]
      cases e : owned g s.H i with
      | none => exact ih n2
      | some b =>
        refine List.nodup_cons.2 ⟨fun hm => ?_, ih n2⟩
        obtain ⟨j, hj, e'⟩ := List.mem_filterMap.1 hm
        exact n1 ((hr.disj i j b e e') ▸ hj)
  have hbs : ∀ b ∈ lent.filterMap (owned g s.H), ∃ id ∈ lent, owned g (frz s.H fro) id = some b := by
    intro b hb'
    obtain ⟨id, hid, e⟩ := List.mem_filterMap.1 hb'
    exact ⟨id, hid, by simpa only [owned, hfl id hid] using e⟩
  have hcall := hsp.run x y hy w vs okc _ (fun k hk => hk.1) hargs (hbn hln) (fun b hb' hk => by
    obtain ⟨id, _, e⟩ := hbs b hb'
    exact hk.2.1 id e)
  refine ⟨_, _, hv, ⟨rfl, rfl, lent ++ fro, rfl, fun id hid hn => ?_⟩, fun next Q hn => ?_⟩
  · show (fillS _ _ _ _ _ _).2 id = s.H id
    simp only [List.mem_append, not_or] at hn
    rw [fill_keep _ _ _ _ (.inl hid) (by rw [objT_retTg]; exact fun h => hn.1 (la1.subset h)), (goneAll_at lent _ id).2 hn.1, (frz_at fro s.H id).2 hn.2]
  unfold Oper.wp
  rw [hrun]
  refine hcall.mono fun e w' hpost => ?_
  obtain ⟨rs, bs', ok', rfl, hrl, hAR0, hnd', hge, hok', hbel⟩ := hpost
  have hAR := hsp2 _ _ _ _ hAR0
  show next (a.put o.dst (retV rs)) w'
  generalize hbsd : lent.filterMap (owned g s.H) = bs at *
  have hlid : ∀ id ∈ lentA hb sp.ins ds, id ∈ lent := fun id h => la1.subset h
  have hlnr : ∀ id ∈ lent, ¬ (id0 ≤ id ∧ id < id0 + 8) := fun id h hc => (i2 id h).1 (hfr id hc.1 hc.2)
  obtain ⟨gs, hgl, hfill⟩ := fillS_R (tgs := retTg sp.outs.length (lentA hb sp.ins ds)) (x := z) (fun _ => .one .skip) (goneAll (frz s.H fro) lent) id0 hAR (by simp [retTg, tgSlots, la2, hks])
    (fun id hid => by
      rw [objT_retTg] at hid
      have := hlnr id (hlid id hid)
      omega) (by rw [objT_retTg]; exact hln.sublist la1) (fun j id k' h1 h2 => by
      rcases tgSlots_get _ _ _ _ h1 with ⟨_, e⟩ | ⟨hj, id', h3, e⟩
      · cases e
      · cases e
        obtain ⟨kb, hkb⟩ : ∃ kb, (backs sp.ins)[j - sp.outs.length]? = some kb := ⟨_, List.getElem?_eq_getElem (by rw [← la2]; exact (List.getElem?_eq_some_iff.1 h3).1)⟩
        have hq := hbk _ kb hkb (la4 _ id kb h3 hkb).2
        rw [show sp.outs.length + (j - sp.outs.length) = j by omega] at hq
        rw [hq] at h2
        have e2 : kb = k' := by simpa using h2
        rw [← e2]
        exact (la4 _ id kb h3 hkb).2)
  have hF := hfill (newG g id0 gs) (fun t => rs.getD t undef) (fun i v hi => by
      have hlt := (List.getElem?_eq_some_iff.1 hi).1
      unfold newG
      rw [if_pos ⟨by omega, by omega⟩, List.getD_eq_getElem?_getD, Nat.add_sub_cancel_left, hi]; rfl)
    (fun j t v h1 h2 => by
      rcases tgSlots_get _ _ _ _ h1 with ⟨hj, e⟩ | ⟨hj, id', h3, e⟩
      · cases e
        rw [List.getElem?_append_left (by omega)] at h2
        simp [List.getD_eq_getElem?_getD, h2]
      · cases e)
    (fun j id v h1 h2 => by
      rcases tgSlots_get _ _ _ _ h1 with ⟨hj, e⟩ | ⟨hj, id', h3, e⟩
      · cases e
      · cases e
        rw [List.getElem?_append_right (by omega), hrl, la3, List.getElem?_map, h3] at h2
        simp at h2
        have := hlnr id (hlid id (List.mem_of_getElem? h3))
        unfold newG
        rw [if_neg (by rw [hgl]; omega)]; exact h2)
  generalize hq : fillS (fun _ => .one .skip) (goneAll (frz s.H fro) lent) id0 (retTg sp.outs.length (lentA hb sp.ins ds)) ks z = q at *
  generalize hN : nobP (retTg sp.outs.length (lentA hb sp.ins ds)) ks = N at *
  let G := newG g id0 gs
  -- which are touched
  have htch : ∀ id, tch (retTg sp.outs.length (lentA hb sp.ins ds)) ks id0 id ↔ ((id0 ≤ id ∧ id < id0 + N) ∨ id ∈ lentA hb sp.ins ds) := by
    intro id; unfold tch; rw [hN, objT_retTg]
  have hkeep : ∀ id, ¬ (id0 ≤ id ∧ id < id0 + N) → id ∉ lentA hb sp.ins ds → q.2 id = goneAll (frz s.H fro) lent id := by
    intro id h1 h2
    rw [← hq]
    exact fill_keep _ _ _ _ (by rw [hN]; omega) (by rw [objT_retTg]; exact h2)
  have hGold : ∀ id, ¬ (id0 ≤ id ∧ id < id0 + N) → G id = g id := fun id h => if_neg (by rw [hgl]; exact h)
  let tc : Nat → Prop := fun id => id ∈ lent ∨ (id0 ≤ id ∧ id < id0 + N)
  have hown : ∀ id k, tc id → owned G q.2 id = some k → k ∈ bs' := by
    intro id k ht ho
    by_cases hf : tch (retTg sp.outs.length (lentA hb sp.ins ds)) ks id0 id
    · exact hF.own id k hf ho
    · rw [htch] at hf
      simp only [not_or] at hf
      rw [owned_eq, hkeep id hf.1 hf.2, (goneAll_at lent _ id).1 (ht.resolve_right hf.1)] at ho
      cases ho
  have hbsl : ∀ b ∈ bs, ∃ id ∈ lent, owned g (frz s.H fro) id = some b := hbs
  have hbs' : ∀ b ∈ bs', w.heap.size ≤ b ∨ ∃ id ∈ lent, owned g (frz s.H fro) id = some b := fun b hb' => by
    rcases hge b hb' with h | h
    · exact .inr (hbsl b h)
    · exact .inl h
  have hokn : ∀ k, ok' k → okB B G q.2 w' k := by
    intro k hk
    obtain ⟨h1, h2, h3⟩ := hok' k hk
    refine ⟨h2, fun i hi => ?_, ?_⟩
    · by_cases ht : tc i
      · exact h3 (hown i k ht hi)
      · have ht1 : i ∉ lent := fun h => ht (.inl h)
        have ht2 : ¬ (id0 ≤ i ∧ i < id0 + N) := fun h => ht (.inr h)
        have hi2 : owned g (frz s.H fro) i = some k := by
          rw [owned_eq, hkeep i ht2 (fun h => ht1 (hlid i h)), (goneAll_at lent _ i).2 ht1, hGold i ht2] at hi
          rw [owned_eq]; exact hi
        rcases h1 with h1 | h1 | h1
        · exact h1.2.1 i hi2
        · obtain ⟨id, hid, e⟩ := hbsl k h1
          exact ht1 (hrF.disj i id k hi2 e ▸ hid)
        · have := OB.lt (hrF.objs i) rfl hi2; omega
    · rcases h1 with h1 | h1 | h1
      · exact h1.2.2
      · obtain ⟨id, hid, e⟩ := hbsl k h1
        exact B.al k (hrF.base id k e)
      · exact B.al k (B.on k (Nat.le_trans hr.frm.size h1))
  have hrel : Rel B nt (less fr id0) { s with H := q.2, dt := lent ++ fro ++ s.dt } G a w' := by
    refine Rel.gen (s' := { s with H := q.2, dt := lent ++ fro ++ s.dt }) hrF tc (fun id => ¬ fr id) (fun id ht => ?_) (fun id hf => ?_) (fun id _ => hrF.kold id) (fun id k ht ho => ?_) (fun i j k hi hj hik hjk => ?_) (fun k hk hno => ?_) hbel.os hbel.tape hbel.output hbel.size
      (fun _ t => .inl ⟨rfl, rfl, hrF.sold t⟩) (fun t id hid hf => hrF.sold t id hid hf.1) (fun hk id ht => ?_) (fun id j hj hf => ?_) (fun id hf => ?_) (fun id hid => ⟨(hr.kp id hid).1, fun h => (hr.kp id hid).1 h.1⟩) hr.size hr.dfr
    · have ht1 : id ∉ lent := fun h => ht (.inl h)
      have ht2 : ¬ (id0 ≤ id ∧ id < id0 + N) := fun h => ht (.inr h)
      exact ⟨(hkeep id ht2 (fun h => ht1 (hlid id h))).trans ((goneAll_at lent _ id).2 ht1), hGold id ht2⟩
    · have ht2 : ¬ (id0 ≤ id ∧ id < id0 + N) := fun h => hf (hfr id h.1 (by omega))
      by_cases hl : id ∈ lentA hb sp.ins ds
      · obtain ⟨j, hj, rfl⟩ := List.getElem_of_mem hl
        have hj2 : j < (backs sp.ins).length := by rw [← la2]; exact hj
        obtain ⟨hfit, hiob⟩ := la4 j _ _ (List.getElem?_eq_getElem hj) (List.getElem?_eq_getElem hj2)
        have hfit2 := hF.fit (sp.outs.length + j) ((lentA hb sp.ins ds)[j]) ((backs sp.ins)[j]) (by
            unfold retTg tgSlots
            rw [List.getElem?_append_right (by simp)]
            simp [List.getElem?_eq_getElem hj]) (by
            exact hbk j _ (List.getElem?_eq_getElem hj2) hiob)
        refine .inr ⟨?_, hGold _ ht2⟩
        have hfz : frz s.H fro ((lentA hb sp.ins ds)[j]) = s.H ((lentA hb sp.ins ds)[j]) := hfl _ (hlid _ hl)
        show shO (q.2 _) = shO (frz s.H fro _)
        rw [hfz]
        exact fits_sh hfit hfit2 (hGold _ ht2) (hr.objs _) ((hF.ob _ ((htch _).2 (.inr hl))).1)
      · have e := hkeep id ht2 hl
        by_cases hl2 : id ∈ lent
        · left
          show shO (q.2 id) = none
          rw [e, (goneAll_at lent _ id).1 hl2]; rfl
        · right
          refine ⟨?_, hGold id ht2⟩
          show shO (q.2 id) = shO (frz s.H fro id)
          rw [e, (goneAll_at lent _ id).2 hl2]
    · rcases hbs' k (hown id k ht ho) with h | ⟨j, hj, e⟩
      · exact .inl h
      · exact .inr ⟨j, .inl hj, e⟩
    · have tt : ∀ i k, tc i → owned G q.2 i = some k → tch (retTg sp.outs.length (lentA hb sp.ins ds)) ks id0 i := by
        intro i k hi hik
        rw [htch]
        by_cases h1 : id0 ≤ i ∧ i < id0 + N
        · exact .inl h1
        · by_cases h2 : i ∈ lentA hb sp.ins ds
          · exact .inr h2
          · exfalso
            rw [owned_eq, hkeep i h1 h2, (goneAll_at lent _ i).1 (hi.resolve_right h1)] at hik
            cases hik
      exact hF.inj hnd' i j k (tt i k hi hik) (tt j k hj hjk) hik hjk
    · refine hbel.block k hk fun h => ?_
      rcases h with h | h
      · obtain ⟨id, hid, e⟩ := hbsl k h
        exact hno id (.inl hid) e
      · omega
    · by_cases h1 : (id0 ≤ id ∧ id < id0 + N) ∨ id ∈ lentA hb sp.ins ds
      · have := (hF.ob id ((htch id).2 h1)).1
        show OB _ _ _ _ id (q.2 id)
        have hmono : OB G q.2 w' (okB B G q.2 w') id (q.2 id) := OB.mono (g := G) (H := q.2) (w := w') (ok := ok') (fun k hk' => ⟨hokn k hk', rfl⟩) rfl rfl (fun _ _ => rfl) (fun j _ => .inr ⟨rfl, rfl⟩) this
        exact hmono
      · simp only [not_or] at h1
        show OB _ _ _ _ id (q.2 id)
        rw [hkeep id h1.1 h1.2, (goneAll_at lent _ id).1 (ht.resolve_right h1.1)]
        trivial
    · have hj' : j ∈ (q.2 id).kids := hj
      by_cases h1 : (id0 ≤ id ∧ id < id0 + N) ∨ id ∈ lentA hb sp.ins ds
      · have := (hF.ob id ((htch id).2 h1)).2 j hj'
        rw [hN] at this
        exact hf.2 ⟨this.1, by omega⟩
      · simp only [not_or] at h1
        rw [hkeep id h1.1 h1.2] at hj'
        by_cases h2 : id ∈ lent
        · rw [(goneAll_at lent _ id).1 h2] at hj'; cases hj'
        · rw [(goneAll_at lent _ id).2 h2] at hj'
          exact hrF.kold id j hj' hf.1
    · show q.2 id = .gone
      have h1 : ¬ (id0 ≤ id ∧ id < id0 + N) := fun h => hf.2 ⟨h.1, by omega⟩
      have h2 : id ∉ lent := fun h => (i2 id h).1 hf.1
      rw [hkeep id h1 (fun h => h2 (hlid id h)), (goneAll_at lent _ id).2 h2]
      exact hrF.fresh id hf.1
  -- the results
  have hres : All2 (D0R G q.2 w' ok') ((List.range sp.outs.length).map fun i => d0Of (q.1 i)) rs ∧ ∀ d ∈ ((List.range sp.outs.length).map fun i => d0Of (q.1 i)), ∀ j ∈ d.ids, id0 ≤ j ∧ j < id0 + N := by
    have one : ∀ i (hi : i < sp.outs.length), D0R G q.2 w' ok' (d0Of (q.1 i)) (rs.getD i undef) ∧ ∀ j ∈ (d0Of (q.1 i)).ids, id0 ≤ j ∧ j < id0 + N := by
      intro i hi
      rcases hF.slot i with ⟨_, h⟩ | ⟨h1, h2⟩
      · exfalso
        refine h ?_
        unfold retTg tgSlots
        exact List.mem_append.2 (.inl (List.mem_map.2 ⟨i, List.mem_range.2 hi, rfl⟩))
      · rw [hN] at h2
        cases e : q.1 i with
        | v d => rw [e] at h1 h2; exact ⟨h1, h2⟩
        | tup _ => exact ⟨trivial, by simp [d0Of, D0.ids, D0.ls, L.ids]⟩
    refine ⟨All2.of_get (by simp [hrl]) fun i hi hi' => ?_, fun d hd j hj => ?_⟩
    · simp only [List.length_map, List.length_range] at hi
      have := (one i hi).1
      simp only [List.getElem_map, List.getElem_range]
      rw [List.getD_eq_getElem?_getD, List.getElem?_eq_getElem hi'] at this
      exact this
    · obtain ⟨i, hi, rfl⟩ := List.mem_map.1 hd
      exact (one i (List.mem_range.1 hi)).2 j hj
  obtain ⟨q1, q2⟩ := resD_R (G := G) (H' := q.2) hres.1
  refine hn G _ _ (hrel.put_ hd ?_ fun id hi hl => ?_)
  · exact DR.mono (fun k hk => ⟨hokn k hk, rfl⟩) (fun _ _ => .inr ⟨rfl, rfl⟩) q1
  · obtain ⟨d', hd', hi'⟩ := q2 id hi
    have := hres.2 d' hd' id hi'
    exact hl.2 ⟨this.1, by omega⟩

theorem split_R {R : Type} {ns : Nat} : ∀ {ks : List K} {y : dens ks} {k : (ks : List K) → dens ks → Option R} {r : R}, splitK ks y k = some r →
    ∃ (ks' : List K) (z : dens ks'), k ks' z = some r ∧ ks'.length = ks.length ∧ (∀ (w : World) ok vs bs, AR w ok ks y vs bs → AR w ok ks' z vs bs) ∧ ∀ (j : Nat) q, ks[j]? = some q → q.isOb = true → ks'[j]? = some q
  | [], y, k, r, h => ⟨[], (), h, rfl, fun _ _ _ _ h => h, fun j q h => by simp at h⟩
  | q :: rest, y, k, r, h => by
    have one : ∀ (q' : K) (y1 : q'.den) (f : ∀ (w : World) ok cs bs, CR w ok q y.1 cs bs → CR w ok q' y1 cs bs) (hag : q'.isAgg = q.isAgg) (hob : q.isOb = true → q' = q), splitK rest y.2 (fun ks z => k (q' :: ks) (y1, z)) = some r →
        ∃ (ks' : List K) (z : dens ks'), k ks' z = some r ∧ ks'.length = (q :: rest).length ∧ (∀ (w : World) ok vs bs, AR w ok (q :: rest) y vs bs → AR w ok ks' z vs bs) ∧ ∀ (j : Nat) x, (q :: rest)[j]? = some x → x.isOb = true → ks'[j]? = some x := by
      intro q' y1 f hag hob h
      obtain ⟨ks', z, h1, h2, h3, h4⟩ := split_R (ns := ns) h
      refine ⟨q' :: ks', (y1, z), h1, by simp [h2], fun w ok vs bs hA => ?_, fun j x hj hx => ?_⟩
      · obtain ⟨cs, rs, b1, b2, e1, e2, hc, hr⟩ := hA
        exact ⟨cs, rs, b1, b2, by rw [hag]; exact e1, e2, f _ _ _ _ hc, h3 _ _ _ _ hr⟩
      · cases j with
        | zero => simp at hj; subst hj; simp [hob hx]
        | succ j => simpa using h4 j x (by simpa using hj) hx
    cases q with
    | mb T c =>
      simp only [splitK] at h
      split at h
      · rename_i hy
        exact one .np () (fun w ok cs bs hc => by rw [hy] at hc; exact hc) rfl (fun h => by cases h) h
      · rename_i v hy
        exact one (.bx T c) v (fun w ok cs bs hc => by rw [hy] at hc; exact hc) rfl (fun h => by cases h) h
    | _ => exact one _ y.1 (fun _ _ _ _ h => h) rfl (fun _ => rfl) (by simpa only [splitK] using h)

theorem w_callK (hhb : ∀ id, hb id = .gone ∨ hb id = s.H id) (hr : Rel B nt fr s g a w) (hfr : ∀ j, id0 ≤ j → j < id0 + 8 → fr j) (hd : dstOk nt o.dst = true) {gf : Nat} {vs : List Value}
    (hrun : (∀ args w, (callFunc gf args).run P w = .ok (.enter gf args) w) → (execOp a.eval o).run P w = .ok (.enter gf vs.toArray) w) {ds : List D} (hds : All2 (DR g s.H w (okB B g s.H w)) ds vs) (hdi : ∀ d ∈ ds, ∀ id ∈ d.ids, ¬ fr id) :
    ∀ {sps : List Sp}, (∀ sp ∈ sps, Sound P gf sp) → callK id0 hb ds s k sps = some r → WGoal P B nt fr id0 s a w o k r
  | [], _, h => by simp only [callK] at h; cases h
  | sp :: rest, hsp, h => by
    simp only [callK] at h
    split at h
    · exact w_callK hhb hr hfr hd hrun hds hdi (fun sp h => hsp sp (.tail _ h)) h
    · rename_i x fro lent hx
      cases hc : lentOk fro lent with
      | false => rw [hc] at h; cases h
      | true =>
        rw [hc] at h
        simp only [cond_true] at h
        cases hy : sp.sem x with
        | none => rw [hy] at h; cases h
        | some y =>
          rw [hy] at h
          simp only [Option.bind_some] at h
          obtain ⟨ks', z, h1, h2, h3, h4⟩ := split_R (ns := 0) h
          cases h8 : Nat.ble (nobP (retTg sp.outs.length (lentA hb sp.ins ds)) ks') 8 with
          | false => rw [h8] at h1; cases h1
          | true =>
            rw [h8] at h1
            simp only [cond_true] at h1
            exact w_call1 hhb hr hfr hd (hrun (hsp sp (.head _)).ent) hds hdi (hsp sp (.head _)) hx hc hy h2 h3 (fun j q hj hq => h4 _ q (by rw [List.getElem?_append_right (by omega), Nat.add_sub_cancel_left]; exact hj) hq) (Nat.le_of_ble_eq_true h8) h1

end
end Go.Proofs.Fr

/- Calls of plain values alone. -/
namespace Go.Proofs.Fr
open Go Go.RowKit

variable {P : Program} {B : Bs} {nt : Nat} {fr : Nat → Prop} {s : S} {g : Nat → Value} {a : Act} {w w' : World} {R : Type} {H : Nat → Ob} {ok ok' : Nat → Prop}

theorem mkV_of {t : Ty} {d : D0} {v : Value} {x : t.den} {ids : List Nat} {vw : Nat → Vw} (hvw : ∀ id E t xs, vw id = .row E t xs → (H id).vw = .row E t xs) (hobj : ∀ id, OB g H w ok id (H id)) (hok : ∀ k, ok k → ok' k) (ha : d.isAgg = t.isAgg)
    (hp : pjAll vw t d.ls = some (x, ids)) (hd : D0R g H w ok d v) (hid : ∀ id ∈ ids, ∀ k, owned g H id = some k → ok' k) : ∃ cs, v = mkV t.isAgg cs ∧ En w ok' t x cs := by
  cases d with
  | one l =>
    have hagg : t.isAgg = false := ha.symm
    exact ⟨[v], by rw [hagg]; rfl, pjAll_En hvw hobj hok hp (show All2 _ [l] [v] from ⟨hd, trivial⟩) hid⟩
  | agg ls =>
    have hagg : t.isAgg = true := ha.symm
    obtain ⟨cs, rfl, hc⟩ := hd
    exact ⟨cs.toList, by rw [hagg]; simp [mkV], pjAll_En hvw hobj hok hp hc hid⟩

theorem pkArgs_R {vw : Nat → Vw} (hvw : ∀ id E t xs, vw id = .row E t xs → (H id).vw = .row E t xs) (hobj : ∀ id, OB g H w ok id (H id)) (hok : ∀ k, ok k → ok' k) :
    ∀ {ks : List K} {ds : List D} {vs : List Value} {x : dens ks} {ids : List Nat}, pkArgs vw ks ds = some (x, ids) → All2 (DR g H w ok) ds vs → (∀ id ∈ ids, ∀ k, owned g H id = some k → ok' k) →
      AR w ok' ks x vs [] ∧ backs ks = [] ∧ lvA ks vs = []
  | [], ds, vs, x, ids, h, ha, _ => by
    simp only [pkArgs] at h
    split at h
    · exact ⟨⟨All2.nil_l ha, rfl⟩, rfl, rfl⟩
    · cases h
  | .v t :: r, ds, vs, x, ids, h, ha, hid => by
    simp only [pkArgs] at h
    split at h
    · rename_i d ds
      split at h
      · rename_i hagg
        split at h
        · rename_i x1 i1 h1
          split at h
          · rename_i y i2 h2
            cases h
            obtain ⟨v, rest, rfl, hd, hrest⟩ := ha.cons_l
            obtain ⟨cs, rfl, hen⟩ := mkV_of hvw hobj hok hagg h1 hd (fun id hm => hid id (List.mem_append.2 (.inl hm)))
            obtain ⟨q1, q2, q3⟩ := pkArgs_R hvw hobj hok h2 hrest (fun id hm => hid id (List.mem_append.2 (.inr hm)))
            exact ⟨⟨cs, rest, [], [], rfl, rfl, ⟨hen, rfl⟩, q1⟩, q2, q3⟩
          · cases h
        · cases h
      · cases h
    · cases h
  | .own .. :: _, _, _, _, _, h, _, _ => by simp only [pkArgs] at h; cases h
  | .io .. :: _, _, _, _, _, h, _, _ => by simp only [pkArgs] at h; cases h
  | .bx .. :: _, _, _, _, _, h, _, _ => by simp only [pkArgs] at h; cases h
  | .fn .. :: _, _, _, _, _, h, _, _ => by simp only [pkArgs] at h; cases h
  | .np :: _, _, _, _, _, h, _, _ => by simp only [pkArgs] at h; cases h
  | .mb .. :: _, _, _, _, _, h, _, _ => by simp only [pkArgs] at h; cases h
  | .nil :: _, _, _, _, _, h, _, _ => by simp only [pkArgs] at h; cases h
  | .cons .. :: _, _, _, _, _, h, _, _ => by simp only [pkArgs] at h; cases h

theorem pkArgs_ids {vw : Nat → Vw} : ∀ {ks : List K} {ds : List D} {x : dens ks} {ids : List Nat}, pkArgs vw ks ds = some (x, ids) → ∀ id ∈ ids, (∃ d ∈ ds, id ∈ d.ids) ∧ ∃ E t xs, vw id = .row E t xs
  | [], ds, x, ids, h => by
    simp only [pkArgs] at h
    split at h
    · cases h; simp
    · cases h
  | .v t :: r, ds, x, ids, h => by
    simp only [pkArgs] at h
    split at h
    · rename_i d ds
      split at h
      · split at h
        · rename_i x1 i1 h1
          split at h
          · rename_i y i2 h2
            cases h
            intro id hm
            rcases List.mem_append.1 hm with hm | hm
            · obtain ⟨l, hl, hi⟩ := pjAll_ids h1 id hm
              refine ⟨⟨_, .head _, by simp only [D.ids, D0.ids, List.mem_flatMap]; exact ⟨l, hl, hi⟩⟩, ?_⟩
              unfold pjAll at h1
              split at h1
              · rename_i h3; cases h1; exact pj_rows h3 id hm
              · cases h1
            · obtain ⟨⟨d', hd', hi⟩, h3⟩ := pkArgs_ids h2 id hm
              exact ⟨⟨d', .tail _ hd', hi⟩, h3⟩
          · cases h
        · cases h
      · cases h
    · cases h
  | .own .. :: _, _, _, _, h => by simp only [pkArgs] at h; cases h
  | .io .. :: _, _, _, _, h => by simp only [pkArgs] at h; cases h
  | .bx .. :: _, _, _, _, h => by simp only [pkArgs] at h; cases h
  | .fn .. :: _, _, _, _, h => by simp only [pkArgs] at h; cases h
  | .np :: _, _, _, _, h => by simp only [pkArgs] at h; cases h
  | .mb .. :: _, _, _, _, h => by simp only [pkArgs] at h; cases h
  | .nil :: _, _, _, _, h => by simp only [pkArgs] at h; cases h
  | .cons .. :: _, _, _, _, h => by simp only [pkArgs] at h; cases h

theorem mkA_nob : ∀ (ks : List K) (x : dens ks) (n : Nat), (mkA ks x n).2.length = nobA ks
  | [], _, _ => rfl
  | k :: r, x, n => by simp only [mkA, List.length_append, mkI_len, mkA_nob r x.2 (n + k.nob), nobA]

theorem En_noSl : ∀ {t : Ty} {x : t.den} {cs : List Value}, t.hasSl = false → En w ok t x cs → En w ok' t x cs
  | .int _, _, _, _, h => h
  | .bool, _, _, _, h => h
  | .str, _, _, _, h => h
  | .sl _ _, _, _, hs, _ => by simp [Ty.hasSl] at hs
  | .nil, _, _, _, h => h
  | .cons a b, _, _, hs, h => by
    simp only [Ty.hasSl, Bool.or_eq_false_iff] at hs
    obtain ⟨c1, c2, rfl, h1, h2⟩ := h
    exact ⟨c1, c2, rfl, En_noSl hs.1 h1, En_noSl hs.2 h2⟩

theorem AR_noSl : ∀ {ks : List K} {y : dens ks} {vs : List Value} {bs : List Nat}, retains ks = false → AR w ok ks y vs bs → AR w ok' ks y vs bs
  | [], _, _, _, _, h => h
  | k :: r, y, vs, bs, hs, h => by
    have hs' : k.ret = false ∧ retains r = false := by
      unfold retains at hs ⊢
      simpa only [List.any_cons, Bool.or_eq_false_iff] using hs
    obtain ⟨cs, rest, b1, b2, e1, e2, he, h⟩ := h
    refine ⟨cs, rest, b1, b2, e1, e2, ?_, AR_noSl hs'.2 h⟩
    cases k with
    | v t => exact ⟨En_noSl hs'.1 he.1, he.2⟩
    | _ => cases hs'.1

section
variable {o : Oper} {id0 : Nat} {k : D → List Ob → List Nat → Option R} {r : R} {vw : Nat → Vw}

theorem v_call (hvw : ∀ id, vw id = .no ∨ vw id = (s.H id).vw) (hr : Rel B nt fr s g a w) (hfr : ∀ j, id0 ≤ j → j < id0 + 8 → fr j) (hd : dstOk nt o.dst = true) {f : Operand} {args : Array Operand} {tys : Array TypeId}
    (ho : o.op = .call { callee := .value f, args := args, argTypes := tys }) {gf : Nat} (hf : evD s.e f = .one (.fn gf)) {sp : Sp} (hsp : Sound P gf sp) {x : dens sp.ins} {ids : List Nat}
    (hx : pkArgs vw sp.ins (args.toList.map (evD s.e)) = some (x, ids)) (h8 : nobA (sp.outs ++ backs sp.ins) ≤ 8) {y : dens (sp.outs ++ backs sp.ins)} (hy : sp.sem x = some y)
    (hv : k (resD (mkA (sp.outs ++ backs sp.ins) y id0).1) (mkA (sp.outs ++ backs sp.ins) y id0).2 (bif retains sp.outs then ids else []) = some r) : Goal P B nt fr id0 s a w o k r := by
  obtain ⟨hfv, _⟩ := ev_R hr f
  rw [hf] at hfv
  have vf : a.eval f = .func (.func gf) #[] #[] := hfv
  obtain ⟨ha1, ha2⟩ := args_R hr args.toList
  have hids : ∀ id ∈ ids, ¬ fr id ∧ (s.H id).rb = true := by
    intro id hi
    obtain ⟨⟨d, hd', hi'⟩, E, t, xs, hvr⟩ := pkArgs_ids hx id hi
    exact ⟨ha2 d hd' id hi', rb_row ⟨E, t, xs, vw_row hvw _ _ _ _ hvr⟩⟩
  let okc : Nat → Prop := fun k => okB B g s.H w k ∨ ∃ id ∈ ids, owned g s.H id = some k
  have hokc : ∀ k, okc k → k < w.heap.size := by
    rintro k (h | ⟨id, _, h⟩)
    · exact h.1
    · exact OB.lt (hr.objs id) rfl h
  obtain ⟨hargs, hbk, hlv⟩ := pkArgs_R (vw_row hvw) hr.objs (ok' := okc) (fun _ => .inl) hx ha1 fun id hi k hk => .inr ⟨id, hi, hk⟩
  have hcall := hsp.run x y hy w _ okc [] hokc hargs List.nodup_nil (by simp)
  refine ⟨_, _, _, hv, ?_⟩
  intro next Q hn
  have hrun : (execOp a.eval o).run P w = .ok (.enter gf (args.toList.map a.eval).toArray) w := by
    have : (args.map a.eval) = (args.toList.map a.eval).toArray := by
      apply Array.ext'
      simp only [Array.toList_map]
    simp only [execOp, ho, resolve, vf, Deferred.ofValue, Sem.run_bind, Sem.run_pure, Result.andThen_ok, invoke, Array.empty_append, Array.append_empty, hsp.ent, this]
  unfold Oper.wp
  rw [hrun]
  refine hcall.mono fun e w' hpost => ?_
  obtain ⟨rs, bs, ok', rfl, hrl, houts, hnd, hge0, hok', hbelO⟩ := hpost
  have hbel : Below w.heap.size w w' := hbelO.below rfl
  have hge : ∀ b ∈ bs, w.heap.size ≤ b := fun b hb => by rcases hge0 b hb with h | h; cases h; exact h
  show next (a.put o.dst (retV rs)) w'
  rw [hlv, List.append_nil] at houts
  let ids' := bif retains sp.outs then ids else []
  have hids' : ∀ id ∈ ids', id ∈ ids := by
    intro id hi
    simp only [ids'] at hi
    cases hh : retains sp.outs <;> rw [hh] at hi
    · cases hi
    · exact hi
  have hret : retains sp.outs = false → retains (sp.outs ++ backs sp.ins) = false := fun h => by rw [hbk, List.append_nil]; exact h
  obtain ⟨okz, hz0, houtz⟩ : ∃ okz : Nat → Prop, (∀ k, okz k → ok' k ∧ retains sp.outs = true) ∧ AR w' okz (sp.outs ++ backs sp.ins) y rs bs := by
    cases hany : retains sp.outs with
    | true => exact ⟨ok', fun k h => ⟨h, rfl⟩, houts⟩
    | false => exact ⟨fun _ => False, fun _ h => h.elim, AR_noSl (hret hany) houts⟩
  obtain ⟨gs, hg1, hg2, hg3, hg4, hg5, hg6⟩ := mkA_R (x := y) id0 houtz
  have hl8 : (mkA (sp.outs ++ backs sp.ins) y id0).2.length ≤ 8 := by rw [mkA_nob]; exact h8
  have hmem : ∀ (i : Nat) v k, gs[i]? = some v → blkOf v = some k → k ∈ bs := by
    intro i v k hv' hk
    have hlt : i < (mkA (sp.outs ++ backs sp.ins) y id0).2.length := by rw [← hg1]; exact (List.getElem?_eq_some_iff.1 hv').1
    exact hg2.subset (ownsL_mem (List.getElem?_eq_getElem hlt) hv' ((hg3 i _ v (List.getElem?_eq_getElem hlt) hv').trans hk))
  have hblk : ∀ (i : Nat) v k, gs[i]? = some v → blkOf v = some k → w.heap.size ≤ k := fun i v k h1 h2 => hge k (hmem i v k h1 h2)
  have hdis : ∀ (i j : Nat) v u k, gs[i]? = some v → gs[j]? = some u → blkOf v = some k → blkOf u = some k → i = j := by
    intro i j v u k h1 h2 h3 h4
    have hi : i < (mkA (sp.outs ++ backs sp.ins) y id0).2.length := by rw [← hg1]; exact (List.getElem?_eq_some_iff.1 h1).1
    have hj : j < (mkA (sp.outs ++ backs sp.ins) y id0).2.length := by rw [← hg1]; exact (List.getElem?_eq_some_iff.1 h2).1
    exact ownsL_inj (hnd.sublist hg2) (List.getElem?_eq_getElem hi) h1 ((hg3 i _ v (List.getElem?_eq_getElem hi) h1).trans h3) (List.getElem?_eq_getElem hj) h2 ((hg3 j _ u (List.getElem?_eq_getElem hj) h2).trans h4)
  have hrow' : ∀ id ∈ ids', (s.H id).rb = true := fun id hi => (hids id (hids' id hi)).2
  have hfr' : ∀ id ∈ ids', ¬ fr id := fun id hi => (hids id (hids' id hi)).1
  obtain ⟨ok1, ok2, ok3, ok4⟩ := commit_ok hr id0 (mkA (sp.outs ++ backs sp.ins) y id0).2 ids' gs hg1 hl8 hfr hrow' hbel hblk
  have hG : ∀ (i : Nat) v, gs[i]? = some v → newG g id0 gs (id0 + i) = v := by
    intro i v hv'
    have hlt := (List.getElem?_eq_some_iff.1 hv').1
    unfold newG
    rw [if_pos ⟨by omega, by omega⟩, List.getD_eq_getElem?_getD, Nat.add_sub_cancel_left, hv']; rfl
  have hH : ∀ (i : Nat) o, (mkA (sp.outs ++ backs sp.ins) y id0).2[i]? = some o → setObs (frz s.H ids') id0 (mkA (sp.outs ++ backs sp.ins) y id0).2 (id0 + i) = o := fun i o ho => (setObs_at _ _ id0 _).1 i o ho rfl
  have hz1 : ∀ k, okz k → okB B (newG g id0 gs) (setObs (frz s.H ids') id0 (mkA (sp.outs ++ backs sp.ins) y id0).2) w' k := by
    intro k hk0
    obtain ⟨hk, hany⟩ := hz0 k hk0
    obtain ⟨h1, h2, h3⟩ := hok' k hk
    have hidseq : ids' = ids := by simp only [ids', hany, cond_true]
    rcases h1 with (h1 | ⟨id, hi, h1⟩) | h1 | h1
    · exact ok1 k h1
    · exact ok3 id (hidseq ▸ hi) k h1
    · cases h1
    · refine ok2 k h1 h2 fun v hv' hb => ?_
      obtain ⟨i, hi, e⟩ := List.getElem_of_mem hv'
      exact h3 (hmem i v k (by rw [List.getElem?_eq_getElem hi, e]) hb)
  obtain ⟨r1, r2⟩ := hg4 (newG g id0 gs) (setObs (frz s.H ids') id0 (mkA (sp.outs ++ backs sp.ins) y id0).2) hG hH
  have hrel := Rel.commit hr id0 (mkA (sp.outs ++ backs sp.ins) y id0).2 ids' gs hg1 hl8 hfr hfr' hrow' hbel hblk hdis (fun o ho j hj hf => by
    have := hg6 o ho j hj
    exact hf.2 ⟨this.1, by omega⟩) (fun i o ho => OB.mono (fun k hk => ⟨hz1 k hk, rfl⟩) rfl (hH i o ho) (fun _ _ => rfl) (fun _ _ => .inr ⟨rfl, rfl⟩) (r2 i o ho))
  obtain ⟨q1, q2⟩ := resD_R r1
  have hput := hrel.put_ (dst := o.dst) hd (DR.mono (fun k hk => ⟨hz1 k hk, rfl⟩) (fun _ _ => .inr ⟨rfl, rfl⟩) q1) (fun id hi hl => by
    obtain ⟨d', hd', hi'⟩ := q2 id hi
    have := hg5 d' hd' id hi'
    exact hl.2 ⟨this.1, by omega⟩)
  refine hn (newG g id0 gs) _ _ ?_
  have e : s.commit o.dst id0 (resD (mkA (sp.outs ++ backs sp.ins) y id0).1) (mkA (sp.outs ++ backs sp.ins) y id0).2 ids' = ({ s with H := setObs (frz s.H ids') id0 (mkA (sp.outs ++ backs sp.ins) y id0).2, dt := ids' ++ s.dt } : S).put o.dst (resD (mkA (sp.outs ++ backs sp.ins) y id0).1) := by
    unfold S.commit S.put
    cases o.dst <;> rfl
  show Rel B nt (less fr id0) (s.commit o.dst id0 (resD (mkA (sp.outs ++ backs sp.ins) y id0).1) (mkA (sp.outs ++ backs sp.ins) y id0).2 ids') _ _ _
  rw [e]; exact hput

theorem LR_one : ∀ {ls : List L} {cs : List Value}, ls.all L.solid = true → All2 (LR g H w ok) ls cs → ∀ u ∈ cs, u.oneCell' = true
  | [], [], _, _, u, hu => by cases hu
  | l :: ls, c :: cs, hs, h, u, hu => by
    simp only [List.all_cons, Bool.and_eq_true] at hs
    rcases List.mem_cons.1 hu with rfl | hu
    · exact solid_one hs.1 h.1
    · exact LR_one hs.2 h.2 u hu
  | [], _ :: _, _, h, _, _ => h.elim
  | _ :: _, [], _, h, _, _ => h.elim

theorem v_idn (hr : Rel B nt fr s g a w) (hfr : ∀ j, id0 ≤ j → j < id0 + 8 → fr j) (hd : dstOk nt o.dst = true) {f : Operand} {args : Array Operand} {tys : Array TypeId}
    (ho : o.op = .call { callee := .value f, args := args, argTypes := tys }) {gf : Nat} (hf : evD s.e f = .one (.fn gf)) {sp : Sp} (hsp : Sound P gf sp) {n : Nat} (hi : sp.idN = some n) {ls : List L} (hn0 : ls.length = n ∧ ls.all L.solid = true)
    (ha : args.toList.map (evD s.e) = [.v (.agg ls)]) (hv : k (.v (.agg ls)) [] [] = some r) : Goal P B nt fr id0 s a w o k r := by
  obtain ⟨hfv, _⟩ := ev_R hr f
  rw [hf] at hfv
  have vf : a.eval f = .func (.func gf) #[] #[] := hfv
  obtain ⟨ha1, ha2⟩ := args_R hr args.toList
  rw [ha] at ha1 ha2
  obtain ⟨v, rest, hvs, hd0, hrest⟩ := ha1.cons_l
  have hrest0 : rest = [] := All2.nil_l hrest
  subst hrest0
  obtain ⟨cs, rfl, hcs⟩ := (show D0R g s.H w (okB B g s.H w) (.agg ls) v from hd0)
  refine ⟨_, _, _, hv, ?_⟩
  intro next Q hn
  have hrun : (execOp a.eval o).run P w = .ok (.enter gf #[.agg cs]) w := by
    have : (args.map a.eval) = #[.agg cs] := by
      apply Array.ext'
      simp only [Array.toList_map, hvs]
    simp only [execOp, ho, resolve, vf, Deferred.ofValue, Sem.run_bind, Sem.run_pure, Result.andThen_ok, invoke, Array.empty_append, Array.append_empty, hsp.ent, this]
  unfold Oper.wp
  rw [hrun]
  have hsz : cs.size = n := by rw [← hn0.1, hcs.len]; simp
  refine (hsp.idn n hi w cs hsz (LR_one hn0.2 hcs)).mono fun e w' hpost => ?_
  obtain ⟨rfl, hbel⟩ := hpost
  show next (a.put o.dst (.agg cs)) w'
  obtain ⟨ok1, _, _, ok4⟩ := commit_ok hr id0 [] [] [] rfl (by simp) hfr (by simp) hbel (by simp)
  have hrel := Rel.commit hr id0 [] [] [] rfl (by simp) hfr (by simp) (by simp) hbel (by simp) (by simp) (by simp) (by simp)
  have hput := hrel.put_ (dst := o.dst) (d := .v (.agg ls)) (v := .agg cs) hd (DR.mono (fun k hk => ⟨ok1 k hk, hbel.block k hk.1⟩) (fun id hi => ok4 id (ha2 _ (.head _) id hi)) (show DR g s.H w (okB B g s.H w) (.v (.agg ls)) (.agg cs) from ⟨cs, rfl, hcs⟩)) (fun id hi hl => ha2 _ (.head _) id hi hl.1)
  refine hn (newG g id0 []) _ _ ?_
  have e : s.commit o.dst id0 (.v (.agg ls)) [] [] = ({ s with H := setObs (frz s.H []) id0 [], dt := [] ++ s.dt } : S).put o.dst (.v (.agg ls)) := by
    unfold S.commit S.put
    cases o.dst <;> rfl
  rw [e]; exact hput

end
end Go.Proofs.Fr

/- Each operation that writes nothing does what its plain form says. -/
namespace Go.Proofs.Fr
open Go Go.RowKit

variable {P : Program} {B : Bs} {nt : Nat} {fr : Nat → Prop} {s : S} {g : Nat → Value} {a : Act} {w w' : World} {R : Type} {H : Nat → Ob} {ok ok' : Nat → Prop}
section
variable {o : Oper} {T : Nat → List Sp} {id0 : Nat} {k : D → List Ob → List Nat → Option R} {r : R} {vw : Nat → Vw}

theorem v_makeSlice (hr : Rel B nt fr s g a w) (hfr : ∀ j, id0 ≤ j → j < id0 + 8 → fr j) (hd : dstOk nt o.dst = true) {T e : TypeId} {x y : Operand} (ho : o.op = .makeSlice T x y) {l c : Int} (hx : evD s.e x = .one (.int .i64 l)) (hy : evD s.e y = .one (.int .i64 c))
    (hT : P.underlying T = some (.slice e)) {ti : TI} (hti : tinfo P e = some ti) {t : Ty} {zl : List L} (hz : lits ti.zero.cells.toList = some zl) {z : t.den} (hp : pjAll (fun _ => .no) t zl = some (z, []))
    (h2 : ti.size = t.sz) (h3 : 0 < t.sz) (h4 : 0 < ti.bytes) (h0 : 0 ≤ l) (h1 : l ≤ c) (h5 : c ≤ ((maxBytes / ti.bytes : Nat) : Int)) (hv : k (.one (.own id0)) [.row e t (List.replicate l.toNat z)] [] = some r) : Goal P B nt fr id0 s a w o k r := by
  obtain ⟨a1, _⟩ := ev_R hr x
  obtain ⟨a2, _⟩ := ev_R hr y
  rw [hx] at a1
  rw [hy] at a2
  have vx : a.eval x = .int .i64 l := a1
  have vy : a.eval y = .int .i64 c := a2
  obtain ⟨hu, it, hit, hz', hsz, hby⟩ := tinfo_facts hti
  obtain ⟨z1, z2⟩ := lits_LR (g := g) (H := fun _ => .gone) (w := w) (ok := fun _ => False) hz
  have hen : En w (fun _ => False) t z ti.zero.cells.toList := pjAll_En (H := fun _ => .gone) (ok' := fun _ => False) (by intro _ _ _ _ h; cases h) (fun _ => trivial) (fun _ h => h) hp z1 (by simp)
  have hc0 : 0 ≤ c := Int.le_trans h0 h1
  have hcb : c.toNat ≤ maxBytes / ti.bytes := by omega
  have hmul : c.toNat * ti.bytes ≤ maxBytes := (Nat.le_div_iff_mul_le h4).1 hcb
  have hm : c.toNat ≤ maxBytes := Nat.le_trans (Nat.le_mul_of_pos_right _ h4) hmul
  have hbytes : (it.bytes : Int) * c ≤ 281474976710656 := by
    have h6 : ((ti.bytes * c.toNat : Nat) : Int) ≤ maxBytes := by rw [Nat.mul_comm]; omega
    have h7 : (c.toNat : Int) = c := by omega
    rw [Int.natCast_mul, h7, ← hby] at h6
    unfold maxBytes at h6
    omega
  have hrun := run_make (P := P) w T e it ti.zero hT hit hz' .i64 .i64 l c h0 h1 hbytes (by unfold maxBytes at hm; omega)
  have hcs : ti.zero.cells.size = t.sz := by rw [← Array.length_toList]; exact hen.len
  refine ⟨_, _, _, hv, row_eff (cells := madeCells ti.zero.cells (c.toNat * it.size)) (cap := c.toNat) hd hr hfr (ids := []) (by simp) (by simp) (by rw [List.length_replicate]; omega) (by unfold maxBytes at hm; unfold maxLen; omega) (by rw [size_madeCells, hsz, h2]) (fun ok' ho1 _ => ?_) ?_⟩
  · refine ⟨List.replicate l.toNat ti.zero.cells.toList, All2.of_get (by simp) fun i hi hi' => ?_, ?_⟩
    · simp only [List.getElem_replicate]
      exact En.mono (fun k hk => hk.elim) hen
    · rw [List.length_replicate, hsz, h2]
      apply List.ext_getElem?
      intro i
      have fl : ∀ (n : Nat) (q : List Value) (sz : Nat), q.length = sz → 0 < sz → ∀ i, i < n * sz → (List.replicate n q).flatten[i]? = q[i % sz]? := by
        intro n q sz hq hpos
        induction n with
        | zero => intro i hi; simp at hi
        | succ n ih =>
          intro i hi
          rw [List.replicate_succ, List.flatten_cons]
          by_cases hlt : i < q.length
          · rw [List.getElem?_append_left hlt, Nat.mod_eq_of_lt (hq ▸ hlt)]
          · rw [List.getElem?_append_right (by omega), ih (i - q.length) (by rw [Nat.add_mul] at hi; omega), hq, ← Nat.mod_eq_sub_mod (by omega)]
      by_cases hi : i < l.toNat * t.sz
      · have hle : l.toNat * t.sz ≤ c.toNat * t.sz := Nat.mul_le_mul_right _ (by omega)
        rw [List.getElem?_take_of_lt hi, fl l.toNat ti.zero.cells.toList t.sz (by rw [Array.length_toList, hcs]) h3 i hi]
        have hmod : i % t.sz < ti.zero.cells.size := by rw [hcs]; exact Nat.mod_lt _ h3
        have hi2 : i < c.toNat * t.sz := by omega
        simp only [madeCells, Array.toList_map, Array.toList_range, List.getElem?_map, List.getElem?_range hi2, Option.map_some, hcs]
        rw [getElem!_pos ti.zero.cells _ hmod]
        simp [hmod]
      · rw [List.getElem?_eq_none (by simp only [List.length_take]; omega), List.getElem?_eq_none]
        have : (List.replicate l.toNat ti.zero.cells.toList).flatten.length = l.toNat * t.sz := by simp [hcs]
        omega
  · rw [List.length_replicate]
    simp only [execOp, ho, vx, vy, Sem.run_bind, hrun, Result.andThen_ok, Sem.run_pure]
    simp

theorem nums_en {E : Nat} {xs : List Int} {A : Option Addr} {n c : Nat} (h : En w ok (.sl E (.int .u8)) xs [.slice A n c]) : n = xs.length ∧ ((∃ kb oo, A = some ⟨kb, oo, none⟩ ∧ ∀ i, i < n → w.cell? ⟨kb, oo + i, none⟩ = some (.int .u8 (xs.getD i 0))) ∨ xs = []) := by
  obtain ⟨A', c', he, _, hr⟩ := h
  simp only [List.cons.injEq, Value.slice.injEq, and_true] at he
  obtain ⟨rfl, rfl, rfl⟩ := he
  refine ⟨rfl, ?_⟩
  cases xs with
  | nil => exact .inr rfl
  | cons x xs =>
    obtain ⟨kb, oo, _, hA, _⟩ := hr 0 (by simp)
    refine .inl ⟨kb, oo, hA, fun i hi => ?_⟩
    obtain ⟨kb', oo', cs, hA', _, hen, hcell⟩ := hr i hi
    rw [hA] at hA'; cases hA'
    have hcs : cs = [.int .u8 ((x :: xs)[i]'hi)] := hen
    have := hcell 0 (by rw [hcs]; simp)
    simp only [hcs, Ty.sz, Nat.mul_one, Nat.add_zero, List.getElem_cons_zero] at this
    rw [this, List.getD_eq_getElem?_getD, List.getElem?_eq_getElem hi]; rfl

theorem conv_str {src dst e : TypeId} (hs : P.underlying src = some (.slice e)) (hd : P.underlying dst = some .string) (he : P.underlying e = some (.int .u8)) {E : Nat} {xs : List Int} {A : Option Addr} {n c : Nat}
    (h : En w ok (.sl E (.int .u8)) xs [.slice A n c]) : (convert src dst (.slice A n c)).run P w = .ok (.string (strOfNums xs)) w := by
  obtain ⟨hn, h | h⟩ := nums_en h
  · obtain ⟨kb, oo, rfl, hc⟩ := h
    exact run_convert_bytes_arg w src e hs he kb oo n c xs hn.symm hc dst hd
  · subst h
    have : n = 0 := hn
    subst this
    cases A with
    | none => rw [run_convert_bytes_nil w src e hs he 0 c dst hd]; rfl
    | some ad =>
      rw [run_convert_bytes_string w src dst e _ 0 c hs he hd]
      simp [Conv.bytesToString, loadCells, loadCellsFrom]
      rfl

theorem v_conv (hvw : ∀ id, vw id = .no ∨ vw id = (s.H id).vw) (hr : Rel B nt fr s g a w) (hfr : ∀ j, id0 ≤ j → j < id0 + 8 → fr j) (hd : dstOk nt o.dst = true) {src dst : TypeId} {x : Operand} (ho : o.op = .convert src dst x)
    (hv : convK P src dst vw (evD s.e x) (fun l => k (.one l) [] []) = some r) : Goal P B nt fr id0 s a w o k r := by
  obtain ⟨a1, _⟩ := ev_R hr x
  have fin : ∀ (l : L), l.simple = true → (convert src dst (a.eval x)).run P w = .ok (valOf l) w → k (.one l) [] [] = some r → Goal P B nt fr id0 s a w o k r :=
    fun l hs hb hk => ⟨.one l, [], [], hk, eff_pure hd hr (by simp [execOp, ho, hb]) (simple_LR hs).1 (one_ids (simple_LR (g := g) (H := s.H) (w := w) (ok := fun _ => True) hs).2)⟩
  unfold convK at hv
  split at hv
  · rename_i d1 kk kx n e1 e2 e3
    rw [e3] at a1
    rw [show a.eval x = .int kx n from a1] at fin
    refine fin _ rfl ?_ hv
    simp only [convert, Sem.run_bind, run_underlying e1, run_underlying e2, Result.andThen_ok]
    cases d1 <;> rfl
  · rename_i d1 st e1 e2 e3
    rw [e3] at a1
    rw [show a.eval x = .string st from a1] at fin
    refine fin _ rfl ?_ hv
    simp only [convert, Sem.run_bind, run_underlying e1, run_underlying e2, Result.andThen_ok]
    cases d1 <;> rfl
  · rename_i d1 e st e1 e2 e3
    split at hv
    · rename_i he
      split at hv
      · rename_i hsz
        rw [e3] at a1
        have vx : a.eval x = .string st := a1
        refine ⟨_, _, _, hv, ?_⟩
        have hbel : Below w.heap.size w (Lib.bytesWorld w e st) := ⟨rfl, rfl, rfl, by rw [Lib.bytesWorld_size]; omega, fun i hi => Lib.bytesWorld_at_old w e st i hi⟩
        obtain ⟨ok1, ok2, ok3, ok4⟩ := commit_ok hr id0 [] [] [] rfl (by simp) hfr (by simp) hbel (by simp)
        have hrel := Rel.commit hr id0 [] [] [] rfl (by simp) hfr (by simp) (by simp) hbel (by simp) (by simp) (by simp) (by simp)
        rw [newG_nil] at ok1 ok2 ok3 ok4 hrel
        refine eff_val (g' := g) (v := .slice (some ⟨w.heap.size, 0, none⟩) st.size (grownCap w st.size 0 e)) hd ?_ hrel ?_ (fun id h => by simp [D.ids, D0.ids, D0.ls, L.ids] at h)
        · have := Lib.run_convert_string_bytes w src dst e st e1 e2 he
          simp [execOp, ho, vx, this]
        · have hlen : (bytesS st).length = st.size := by unfold bytesS; rw [List.length_map, Array.length_toList]; rfl
          refine ⟨_, _, by rw [hlen], by rw [hlen]; exact grownCap_ge _ _ _ _, fun i hi => ?_⟩
          have hi' : i < st.size := hlen ▸ hi
          refine ⟨w.heap.size, 0, [.int .u8 ((bytesS st)[i]'hi)], rfl, ok2 _ (Nat.le_refl _) (by rw [Lib.bytesWorld_size]; omega) (by simp), rfl, fun j hj => ?_⟩
          have hj0 : j = 0 := by simpa using hj
          subst hj0
          have := Lib.bytesWorld_cell w e st i hi'
          simp only [Ty.sz, Nat.mul_one, Nat.zero_add, Nat.add_zero, List.getElem_cons_zero]
          rw [this]
          have hil : i < st.data.toList.length := by rw [Array.length_toList]; exact hi'
          simp only [bytesS, List.getElem_map, List.getD_eq_getElem?_getD, List.getElem?_eq_getElem hil, Option.getD_some]
      · cases hv
    · cases hv
  · rename_i e l e1 e2 e3
    split at hv
    · rename_i he
      split at hv
      · rename_i xs hn
        rw [e3] at a1
        refine fin _ rfl ?_ hv
        unfold numsOf at hn
        split at hn
        · rename_i E t ys
          split at hn
          · rename_i ht; subst ht; cases hn
            obtain ⟨A, c, hva, hc, hrr⟩ := a1
            simp only [List.cons.injEq, and_true] at hva
            rw [hva]
            exact conv_str e1 e2 he (show En w (okB B g s.H w) (.sl E (.int .u8)) ys [.slice A ys.length c] from ⟨A, c, rfl, hc, hrr⟩)
          · cases hn
        · cases hn
          rw [show a.eval x = .slice none 0 0 from a1, run_convert_bytes_nil w src _ e1 he 0 0 dst e2]; rfl
        · rename_i id
          split at hn
          · rename_i E t ys hvi
            split at hn
            · rename_i ht; subst ht; cases hn
              obtain ⟨hva, hv', A, c, hsl⟩ := own_len hvw hr hvi a1
              have hen : En w (fun _ => True) (.sl E (.int .u8)) ys [g id] := OB.en (ok' := fun _ => True) (hr.objs id) hv' (fun _ _ => trivial) (fun _ _ => trivial)
              rw [← hva, hsl] at hen
              rw [hsl]
              exact conv_str e1 e2 he hen
            · cases hn
          · cases hn
        · rename_i id m
          split at hn
          · rename_i E t ys hvi
            split at hn
            · rename_i ht; subst ht; cases hn
              obtain ⟨hv', hn', A, c, hg, hva⟩ := cut_len hvw hr hvi a1
              have hen : En w (fun _ => True) (.sl E (.int .u8)) ys [g id] := OB.en (ok' := fun _ => True) (hr.objs id) hv' (fun _ _ => trivial) (fun _ _ => trivial)
              rw [hg] at hen
              rw [hva]
              exact conv_str e1 e2 he (hen.take_ hn')
            · cases hn
          · cases hn
        · cases hn
      · cases hv
    · cases hv
  · cases hv

theorem bndOf_R (hr : Rel B nt fr s g a w) {x : Operand} {n : Int} (h : bndOf (evD s.e x) = some n) : ∃ kk, a.eval x = .int kk n := by
  obtain ⟨h1, _⟩ := ev_R hr x
  unfold bndOf at h
  split at h
  · rename_i kk m e
    cases h
    rw [e] at h1
    exact ⟨kk, h1⟩
  · cases h

theorem lhOf_R (hr : Rel B nt fr s g a w) {lo hi : Option Operand} {l : Int} {h? : Option Int} (h : lhOf lo hi ((lo.toList ++ hi.toList).map (evD s.e)) = some (l, h?)) (len : Nat) :
    ((lo.map a.eval = none ∧ l = 0) ∨ ∃ kk, lo.map a.eval = some (.int kk l)) ∧ ((hi.map a.eval = none ∧ h?.getD (len : Int) = len) ∨ ∃ kk, hi.map a.eval = some (.int kk (h?.getD (len : Int)))) := by
  cases lo with
  | none =>
    cases hi with
    | none => simp only [lhOf] at h; cases h; exact ⟨.inl ⟨rfl, rfl⟩, .inl ⟨rfl, rfl⟩⟩
    | some y =>
      simp only [lhOf, Option.toList_none, Option.toList_some, List.nil_append, List.map_cons, List.map_nil] at h
      split at h
      · rename_i n hn
        cases h
        obtain ⟨kk, e⟩ := bndOf_R hr hn
        exact ⟨.inl ⟨rfl, rfl⟩, .inr ⟨kk, by simp [e]⟩⟩
      · cases h
  | some x =>
    cases hi with
    | none =>
      simp only [lhOf, Option.toList_none, Option.toList_some, List.append_nil, List.map_cons, List.map_nil] at h
      split at h
      · rename_i n hn
        cases h
        obtain ⟨kk, e⟩ := bndOf_R hr hn
        exact ⟨.inr ⟨kk, by simp [e]⟩, .inl ⟨rfl, rfl⟩⟩
      · cases h
    | some y =>
      simp only [lhOf, Option.toList_some, List.cons_append, List.nil_append, List.map_cons, List.map_nil] at h
      split at h
      · rename_i m n hm hn
        cases h
        obtain ⟨kk, e⟩ := bndOf_R hr hm
        obtain ⟨kk', e'⟩ := bndOf_R hr hn
        exact ⟨.inr ⟨kk, by simp [e]⟩, .inr ⟨kk', by simp [e']⟩⟩
      · cases h

end
end Go.Proofs.Fr

/- All operations that write nothing. -/
namespace Go.Proofs.Fr
open Go Go.RowKit

variable {P : Program} {B : Bs} {nt : Nat} {fr : Nat → Prop} {s : S} {g : Nat → Value} {a : Act} {w w' : World} {R : Type} {H : Nat → Ob} {ok ok' : Nat → Prop}
section
variable {o : Oper} {T : Nat → List Sp} {id0 : Nat} {k : D → List Ob → List Nat → Option R} {r : R} {vw : Nat → Vw}

theorem v_slice (hvw : ∀ id, vw id = .no ∨ vw id = (s.H id).vw) (hr : Rel B nt fr s g a w) (hfr : ∀ j, id0 ≤ j → j < id0 + 8 → fr j) (hd : dstOk nt o.dst = true) {T0 : TypeId} {x : Operand} {lo hi mx : Option Operand} (ho : o.op = .slice T0 x lo hi mx)
    (hv : valK P T id0 vw (.slice T0 x lo hi mx) (evD s.e x :: (lo.toList ++ hi.toList ++ mx.toList).map (evD s.e)) k = some r) : Goal P B nt fr id0 s a w o k r := by
  cases hx : evD s.e x with
  | tup q => rw [hx] at hv; simp only [valK] at hv; cases hv
  | v d => cases d with
    | agg ls => rw [hx] at hv; simp only [valK] at hv; cases hv
    | one l0 =>
      rw [hx] at hv
      cases mx with
      | some m => simp only [valK] at hv; cases hv
      | none =>
        simp only [valK, Option.toList_none, List.append_nil] at hv
        split at hv
        · cases hv
        · rename_i l h? hlh
          split at hv
          · rename_i st e1
            split at hv
            · rename_i hb
              obtain ⟨hb0, hb1, hb2⟩ := hb
              obtain ⟨h1, h2⟩ := lhOf_R hr hlh st.size
              exact v_sliceStr hr hd ho hx e1 h1 h2 hb0 hb1 hb2 hv
            · cases hv
          · rename_i e E t xs e1
            split at hv
            · rename_i hs
              split at hv
              · rename_i hb
                obtain ⟨hb0, hb1, hb2⟩ := hb
                obtain ⟨h1, h2⟩ := lhOf_R hr hlh xs.length
                exact v_sliceRow (xs0 := xs) hvw hr hfr hd ho hx e1 hs h1 h2 hb0 hb1 hb2 (.inl ⟨rfl, rfl⟩) hv
              · cases hv
            · cases hv
          · rename_i e id e1
            split at hv
            · rename_i E t xs hvi
              split at hv
              · rename_i hs
                obtain ⟨h1, h2⟩ := lhOf_R hr hlh xs.length
                cases lo with
                | none =>
                  simp only [Option.isNone_none, cond_true] at hv
                  split at hv
                  · rename_i hb
                    exact v_sliceCut (m := xs.length) hvw hr hd ho hx e1 hs h2 hb.1 hb.2 (.inl ⟨rfl, rfl⟩) hvi hv
                  · cases hv
                | some lo =>
                  simp only [Option.isNone_some, cond_false] at hv
                  split at hv
                  · rename_i hb
                    obtain ⟨hb0, hb1, hb2⟩ := hb
                    exact v_sliceRow (xs0 := xs) hvw hr hfr hd ho hx e1 hs h1 h2 hb0 hb1 hb2 (.inr (.inl ⟨id, rfl, hvi, rfl⟩)) hv
                  · cases hv
              · cases hv
            · cases hv
          · rename_i e id m e1
            split at hv
            · rename_i E t xs hvi
              split at hv
              · rename_i hs
                obtain ⟨h1, h2⟩ := lhOf_R hr hlh m
                obtain ⟨a1, _⟩ := ev_R hr x
                rw [hx] at a1
                obtain ⟨_, hmn, _⟩ := cut_len hvw hr hvi a1
                have hml : ((xs.take m).length : Int) = m := by rw [List.length_take]; omega
                cases lo with
                | none =>
                  simp only [Option.isNone_none, cond_true] at hv
                  split at hv
                  · rename_i hb
                    exact v_sliceCut (m := m) hvw hr hd ho hx e1 hs h2 hb.1 hb.2 (.inr rfl) hvi hv
                  · cases hv
                | some lo =>
                  simp only [Option.isNone_some, cond_false] at hv
                  split at hv
                  · rename_i hb
                    obtain ⟨hb0, hb1, hb2⟩ := hb
                    exact v_sliceRow (xs0 := xs) (xs := xs.take m) hvw hr hfr hd ho hx e1 hs h1 (by rw [hml]; exact h2) hb0 hb1 (by rw [hml]; exact hb2) (.inr (.inr ⟨id, m, rfl, rfl, hvi, rfl⟩)) hv
                  · cases hv
              · cases hv
            · cases hv
          · rename_i n e id off e1
            split at hv
            · rename_i Tb ls ti t hvb hti ht
              split at hv
              · rename_i hc
                obtain ⟨h1, h2⟩ := lhOf_R hr hlh n
                split at hv
                · rename_i hb
                  obtain ⟨hb0, hb1, hb2⟩ := hb
                  split at hv
                  · rename_i q hq
                    split at hv
                    · rename_i xs ids hp
                      exact v_sliceArr hvw hr hfr hd ho hx e1 hvb hti hc.1 hc.2 h1 h2 hb0 hb1 hb2 hq hp hv
                    · cases hv
                  · cases hv
                · cases hv
              · cases hv
            · cases hv
          · rename_i e e1
            split at hv
            · rename_i hti
              obtain ⟨ti, hti⟩ := Option.isSome_iff_exists.1 hti
              split at hv
              · rename_i hb
                obtain ⟨hb0, hb1, hb2⟩ := hb
                obtain ⟨h1, h2⟩ := lhOf_R hr hlh 0
                exact v_sliceNil hr hd ho hx e1 hti h1 h2 hb0 hb1 hb2 hv
              · cases hv
            · cases hv
          · cases hv

theorem valK_sound (hT : ∀ f sp, sp ∈ T f → Sound P f sp) (hvw : ∀ id, vw id = .no ∨ vw id = (s.H id).vw) (hr : Rel B nt fr s g a w) (hfr : ∀ j, id0 ≤ j → j < id0 + 8 → fr j) (hd : dstOk nt o.dst = true)
    (hv : valK P T id0 vw o.op (o.op.operands.toList.map (evD s.e)) k = some r) : Goal P B nt fr id0 s a w o k r := by
  generalize ho : o.op = op at hv
  cases op with
  | move x => exact v_move hr hd (.inl ho) hv
  | assign x => exact v_move hr hd (.inr ho) hv
  | pick c x y =>
    simp only [Op.operands, List.map_cons, List.map_nil] at hv
    cases hc : evD s.e c with
    | tup q => rw [hc] at hv; simp only [valK] at hv; cases hv
    | v d => cases d with
      | agg q => rw [hc] at hv; simp only [valK] at hv; cases hv
      | one l =>
        rw [hc] at hv
        cases l <;> first | (simp only [valK] at hv; cases hv; done) | skip
        exact v_pick hr hd ho hc hv
  | build T0 parts =>
    simp only [Op.operands, valK] at hv
    split at hv
    · rename_i ps hps
      split at hv
      · rename_i ls hl
        exact v_build hr hd ho hps hl hv
      · cases hv
    · cases hv
  | buildSlice T0 len parts =>
    simp only [Op.operands, valK] at hv
    split at hv
    · rename_i e ps hT0 hps
      split at hv
      · rename_i ti t hti ht
        split at hv
        · rename_i zl hz
          split at hv
          · rename_i hc
            obtain ⟨h1, h2, h3⟩ := hc
            split at hv
            · rename_i ls hf
              split at hv
              · rename_i xs ids hp
                exact v_buildSlice hvw hr hfr hd ho hps hT0 hti hz h1 h2 h3 hf hp hv
              · cases hv
            · cases hv
          · cases hv
        · cases hv
      · cases hv
    · cases hv
  | box T0 x =>
    simp only [Op.operands, List.map_cons, List.map_nil] at hv
    cases hx : evD s.e x with
    | tup q => rw [hx] at hv; simp only [valK] at hv; cases hv
    | v d =>
      rw [hx] at hv
      simp only [valK] at hv
      split at hv
      · split at hv
        · rename_i hc
          exact v_box hr hfr hd ho hx hc.2 hv
        · cases hv
      · cases hv
  | alloc T0 =>
    simp only [Op.operands, List.map_nil, valK] at hv
    split at hv
    · rename_i ti hti
      split at hv
      · rename_i zl hz
        exact v_alloc hr hfr hd ho hti hz hv
      · cases hv
    · cases hv
  | load T0 x =>
    simp only [Op.operands, List.map_cons, List.map_nil] at hv
    cases hx : evD s.e x with
    | tup q => rw [hx] at hv; simp only [valK] at hv; cases hv
    | v d => cases d with
      | agg q => rw [hx] at hv; simp only [valK] at hv; cases hv
      | one l =>
        rw [hx] at hv
        simp only [valK] at hv
        split at hv
        · rename_i ti ls off hti hc
          split at hv
          · rename_i q hq
            split at hv
            · rename_i d hm
              exact v_load hvw hr hd ho hx hti hc hq hm hv
            · cases hv
          · split at hv
            · rename_i E t xs i
              cases hag : isAggD ti.desc with
              | false => rw [hag] at hv; simp only [Bool.false_and, cond_false] at hv; cases hv
              | true =>
                cases h1 : Nat.beq t.sz 1 with
                | false => rw [hag, h1] at hv; simp only [Bool.and_false, cond_false] at hv; cases hv
                | true =>
                  rw [hag, h1] at hv
                  simp only [Bool.and_self, cond_true] at hv
                  split at hv
                  · rename_i hn
                    exact v_loadRun hr hd ho hx hti hag (Nat.eq_of_beq_eq_true h1) hn hv
                  · cases hv
            · cases hv
        · cases hv
  | sliceToArrayPointer T0 x =>
    simp only [Op.operands, List.map_cons, List.map_nil] at hv
    cases hx : evD s.e x with
    | tup q => rw [hx] at hv; simp only [valK] at hv; cases hv
    | v d => cases d with
      | agg q => rw [hx] at hv; simp only [valK] at hv; cases hv
      | one l =>
        rw [hx] at hv
        cases l <;> first | (simp only [valK] at hv; cases hv; done) | skip
        rename_i E t xs
        simp only [valK] at hv
        split at hv
        · rename_i n e hT
          cases h0 : Nat.blt 0 n with
          | false => rw [h0] at hv; simp only [cond_false] at hv; cases hv
          | true =>
            rw [h0] at hv
            simp only [cond_true] at hv
            split at hv
            · rename_i hn
              exact v_arrPtr hr hd ho hx hT (by simpa [Nat.blt_eq] using h0) hn hv
            · cases hv
        · cases hv
  | nilCheck x =>
    simp only [Op.operands, List.map_cons, List.map_nil] at hv
    cases hx : evD s.e x with
    | tup q => rw [hx] at hv; simp only [valK] at hv; cases hv
    | v d => cases d with
      | agg q => rw [hx] at hv; simp only [valK] at hv; cases hv
      | one l =>
        rw [hx] at hv
        simp only [valK] at hv
        split at hv
        · rename_i hl
          exact v_nilCheck hvw hr hd ho hx (.inl hl) hv
        · split at hv
          · exact v_nilCheck hvw hr hd ho hx (.inr (.inl ⟨_, rfl⟩)) hv
          · rename_i id hnl
            split at hv
            · rename_i f ls hvc
              exact v_nilCheck hvw hr hd ho hx (.inr (.inr ⟨id, f, ls, rfl, hvc⟩)) hv
            · cases hv
          · cases hv
  | binOp op xT x y yT => exact v_bin hr hd ho hv
  | unOp op xT x => exact v_un hr hd ho hv
  | convert src dst x => exact v_conv hvw hr hfr hd ho hv
  | makeSlice T0 x y =>
    simp only [Op.operands, List.map_cons, List.map_nil] at hv
    cases e1 : evD s.e x with
    | tup q => rw [e1] at hv; simp only [valK] at hv; cases hv
    | v d => cases d with
      | agg q => rw [e1] at hv; simp only [valK] at hv; cases hv
      | one l =>
        rw [e1] at hv
        cases l <;> first | (simp only [valK] at hv; cases hv; done) | skip
        rename_i kl l
        cases kl <;> first | (simp only [valK] at hv; cases hv; done) | skip
        cases e2 : evD s.e y with
        | tup q => rw [e2] at hv; simp only [valK] at hv; cases hv
        | v d => cases d with
          | agg q => rw [e2] at hv; simp only [valK] at hv; cases hv
          | one q =>
            rw [e2] at hv
            cases q <;> first | (simp only [valK] at hv; cases hv; done) | skip
            rename_i kc c
            cases kc <;> first | (simp only [valK] at hv; cases hv; done) | skip
            simp only [valK] at hv
            split at hv
            · rename_i e hT0
              split at hv
              · rename_i ti t hti ht
                split at hv
                · rename_i zl hz
                  split at hv
                  · rename_i z hp
                    split at hv
                    · rename_i hc
                      split at hv
                      · rename_i hc2
                        exact v_makeSlice hr hfr hd ho e1 e2 hT0 hti hz hp hc.1 hc.2.1 hc.2.2 hc2.1 hc2.2.1 hc2.2.2 hv
                      · cases hv
                    · cases hv
                  · cases hv
                · cases hv
              · cases hv
            · cases hv
  | slice T0 x lo hi mx =>
    refine v_slice (T := T) hvw hr hfr hd ho ?_
    simpa [Op.operands] using hv
  | fieldAddr T0 x f =>
    simp only [Op.operands, List.map_cons, List.map_nil] at hv
    cases hx : evD s.e x with
    | tup q => rw [hx] at hv; simp only [valK] at hv; cases hv
    | v d => cases d with
      | agg q => rw [hx] at hv; simp only [valK] at hv; cases hv
      | one l =>
        rw [hx] at hv
        simp only [valK] at hv
        split at hv
        · rename_i fs hT0
          split at hv
          · rename_i fd hf
            split at hv
            · rename_i ti hti
              split at hv
              · cases hv
              · rename_i h0
                split at hv
                · rename_i hlv
                  split at hv
                  · rename_i l' hl
                    exact v_fieldAddr hr hd ho hx hT0 hf hti h0 hl hv hvw hlv
                  · cases hv
                · cases hv
            · cases hv
          · cases hv
        · cases hv
  | field T0 x f =>
    simp only [Op.operands, List.map_cons, List.map_nil] at hv
    cases hx : evD s.e x with
    | tup q => rw [hx] at hv; simp only [valK] at hv; cases hv
    | v d => cases d with
      | one q => rw [hx] at hv; simp only [valK] at hv; cases hv
      | agg ls =>
        rw [hx] at hv
        simp only [valK] at hv
        split at hv
        · rename_i fs hT0
          split at hv
          · rename_i fd hf
            split at hv
            · rename_i ti hti
              split at hv
              · rename_i q hq
                split at hv
                · rename_i d hm
                  exact v_field hr hd ho hx hT0 hf hti hq hm hv
                · cases hv
              · cases hv
            · cases hv
          · cases hv
        · cases hv
  | indexAddr T0 x y =>
    simp only [Op.operands, List.map_cons, List.map_nil] at hv
    cases e1 : evD s.e x with
    | tup q => rw [e1] at hv; simp only [valK] at hv; cases hv
    | v d => cases d with
      | agg q => rw [e1] at hv; simp only [valK] at hv; cases hv
      | one l =>
        rw [e1] at hv
        cases e2 : evD s.e y with
        | tup q => rw [e2] at hv; simp only [valK] at hv; cases hv
        | v d => cases d with
          | agg q => rw [e2] at hv; simp only [valK] at hv; cases hv
          | one q =>
            rw [e2] at hv
            cases q <;> first | (simp only [valK] at hv; cases hv; done) | skip
            rename_i kk n
            simp only [valK] at hv
            split at hv
            · rename_i e E t xs hT0
              split at hv
              · rename_i hs
                split at hv
                · rename_i hb
                  exact v_indexAddr hvw hr hd ho e1 e2 hT0 hs hb.1 hb.2 (.inl ⟨rfl, rfl, rfl⟩) hv
                · cases hv
              · cases hv
            · rename_i e id hT0
              split at hv
              · rename_i E t xs hvi
                split at hv
                · rename_i hs
                  split at hv
                  · rename_i hb
                    exact v_indexAddr hvw hr hd ho e1 e2 hT0 hs hb.1 hb.2 (.inr (.inl ⟨rfl, id, rfl, hvi, rfl⟩)) hv
                  · cases hv
                · cases hv
              · cases hv
            · rename_i e id m hT0
              split at hv
              · rename_i E t xs hvi
                split at hv
                · rename_i hs
                  split at hv
                  · rename_i hb
                    exact v_indexAddr hvw hr hd ho e1 e2 hT0 hs hb.1 hb.2 (.inr (.inr ⟨id, rfl, hvi, rfl⟩)) hv
                  · cases hv
                · cases hv
              · cases hv
            · rename_i m e hT0
              split at hv
              · rename_i ti hti
                split at hv
                · cases hv
                · split at hv
                  · rename_i hlv
                    split at hv
                    · rename_i hb
                      rw [splitN_eq _ (by omega)] at hv
                      split at hv
                      · rename_i l' hl'
                        exact v_indexArr hvw hr hd ho e1 e2 hT0 hti hlv hb.1 hb.2 hl' hv
                      · cases hv
                    · cases hv
                  · cases hv
              · cases hv
            · cases hv
  | index T0 x y =>
    simp only [Op.operands, List.map_cons, List.map_nil] at hv
    cases e1 : evD s.e x with
    | tup q => rw [e1] at hv; simp only [valK] at hv; cases hv
    | v d => cases d with
      | agg q =>
        rw [e1] at hv
        cases e2 : evD s.e y with
        | tup q => rw [e2] at hv; simp only [valK] at hv; cases hv
        | v d => cases d with
          | agg q => rw [e2] at hv; simp only [valK] at hv; cases hv
          | one q =>
            rw [e2] at hv
            cases q <;> first | (simp only [valK] at hv; cases hv; done) | skip
            simp only [valK] at hv
            split at hv
            · rename_i m e hT0
              split at hv
              · rename_i ti hti
                split at hv
                · rename_i hc
                  obtain ⟨c1, c2, c3, c4, c5⟩ := hc
                  split at hv
                  · rename_i l hl
                    exact v_indexAgg hr hd ho e1 e2 hT0 hti c1 c2 c3 c4 c5 hl hv
                  · cases hv
                · cases hv
              · cases hv
            · cases hv
      | one l =>
        rw [e1] at hv
        cases l <;> first | (simp only [valK] at hv; cases hv; done) | skip
        cases e2 : evD s.e y with
        | tup q => rw [e2] at hv; simp only [valK] at hv; cases hv
        | v d => cases d with
          | agg q => rw [e2] at hv; simp only [valK] at hv; cases hv
          | one q =>
            rw [e2] at hv
            cases q <;> first | (simp only [valK] at hv; cases hv; done) | skip
            simp only [valK] at hv
            split at hv
            · rename_i hT0
              split at hv
              · rename_i hb
                exact v_index hr hd ho e1 e2 hT0 hb.1 hb.2 hv
              · cases hv
            · cases hv
  | extract x i =>
    simp only [Op.operands, List.map_cons, List.map_nil] at hv
    cases hx : evD s.e x with
    | v q => rw [hx] at hv; simp only [valK] at hv; cases hv
    | tup es =>
      rw [hx] at hv
      simp only [valK] at hv
      split at hv
      · rename_i d he
        exact v_extract hr hd ho hx he hv
      · cases hv
  | makeFunc fn first caps =>
    cases fn <;> first | (simp only [valK] at hv; cases hv; done) | skip
    rename_i f
    simp only [valK] at hv
    cases hfe : first.isEmpty with
    | false => rw [hfe] at hv; cases hv
    | true =>
      rw [hfe] at hv
      simp only [cond_true] at hv
      have e1 : first = #[] := by simpa using hfe
      subst e1
      split at hv
      · rename_i h1
        have e2 : caps = #[] := by
          have := (d0s_R h1).1
          simp only [Op.operands, List.length_nil] at this
          have h3 : ((#[] : Array Operand) ++ caps).toList.length = 0 := this.symm
          simpa using h3
        subst e2
        exact v_makeFunc hr hd ho hv
      · rename_i ps h1 h2
        split at hv
        · rename_i ls hls
          have hop : (Op.makeFunc (.func f) #[] caps).operands.toList = caps.toList := by simp [Op.operands]
          rw [hop] at h2
          exact v_makeClo hr hfr hd ho h2 hls hv
        · cases hv
      · cases hv
  | call c =>
    obtain ⟨callee, args, tys⟩ := c
    cases callee with
    | invoke q m => simp only [valK] at hv; cases hv
    | builtin b =>
      by_cases hlen : b = .len
      · subst hlen
        simp only [Op.operands, Call.operands, Array.empty_append] at hv
        cases hargs : args.toList with
        | nil => rw [hargs] at hv; simp only [List.map_nil, valK] at hv; cases hv
        | cons x rest =>
          rw [hargs] at hv
          cases rest with
          | cons y rest => simp only [List.map_cons] at hv; cases hx : evD s.e x with
            | tup q => rw [hx] at hv; simp only [valK] at hv; cases hv
            | v d => cases d <;> (rw [hx] at hv; simp only [valK] at hv; cases hv)
          | nil =>
            have ha : args = #[x] := by apply Array.ext'; rw [hargs]
            subst ha
            simp only [List.map_cons, List.map_nil] at hv
            cases hx : evD s.e x with
            | tup q => rw [hx] at hv; simp only [valK] at hv; cases hv
            | v d => cases d with
              | agg q => rw [hx] at hv; simp only [valK] at hv; cases hv
              | one l =>
                rw [hx] at hv
                simp only [valK] at hv
                split at hv
                · rename_i hT0
                  split at hv
                  · rename_i n hl
                    exact v_len hvw hr hd ho hx hl hT0 hv
                  · cases hv
                · cases hv
      by_cases hmax : b = .max
      · subst hmax
        simp only [Op.operands, Call.operands, Array.empty_append] at hv
        rcases hargs : args.toList with _ | ⟨x, _ | ⟨y, _ | ⟨z, rest⟩⟩⟩
        · rw [hargs] at hv; simp only [List.map_nil, valK] at hv; cases hv
        · rw [hargs] at hv; simp only [List.map_cons, List.map_nil] at hv
          rcases hx : evD s.e x with ((l | q) | q) <;> rw [hx] at hv
          · cases l <;> (simp only [valK] at hv; cases hv)
          · simp only [valK] at hv; cases hv
          · simp only [valK] at hv; cases hv
        · rw [hargs] at hv
          have ha : args = #[x, y] := by apply Array.ext'; rw [hargs]
          subst ha
          simp only [List.map_cons, List.map_nil] at hv
          rcases hx : evD s.e x with ((l | q) | q)
          · rcases hy : evD s.e y with ((l' | q) | q)
            · rw [hx, hy] at hv
              cases l <;> first | (simp only [valK] at hv; cases hv; done) | skip
              cases l' <;> first | (simp only [valK] at hv; cases hv; done) | skip
              simp only [valK] at hv
              split at hv
              · rename_i hk; subst hk
                exact v_max hr hd ho hx hy hv
              · cases hv
            · rw [hx, hy] at hv; cases l <;> (simp only [valK] at hv; cases hv)
            · rw [hx, hy] at hv; cases l <;> (simp only [valK] at hv; cases hv)
          · rw [hx] at hv; simp only [valK] at hv; cases hv
          · rw [hx] at hv; simp only [valK] at hv; cases hv
        · rw [hargs] at hv; simp only [List.map_cons] at hv
          generalize evD s.e y = dy at hv
          generalize evD s.e z = dz at hv
          rcases hx : evD s.e x with ((l | q) | q) <;> rw [hx] at hv
          · rcases dy with ((l' | q) | q)
            · cases l <;> first | (simp only [valK] at hv; cases hv; done) | skip
            · cases l <;> (simp only [valK] at hv; cases hv)
            · cases l <;> (simp only [valK] at hv; cases hv)
          · simp only [valK] at hv; cases hv
          · simp only [valK] at hv; cases hv
      by_cases hmin : b = .min
      · subst hmin
        simp only [Op.operands, Call.operands, Array.empty_append] at hv
        rcases hargs : args.toList with _ | ⟨x, _ | ⟨y, _ | ⟨z, rest⟩⟩⟩
        · rw [hargs] at hv; simp only [List.map_nil, valK] at hv; cases hv
        · rw [hargs] at hv; simp only [List.map_cons, List.map_nil] at hv
          rcases hx : evD s.e x with ((l | q) | q) <;> rw [hx] at hv
          · cases l <;> (simp only [valK] at hv; cases hv)
          · simp only [valK] at hv; cases hv
          · simp only [valK] at hv; cases hv
        · rw [hargs] at hv
          have ha : args = #[x, y] := by apply Array.ext'; rw [hargs]
          subst ha
          simp only [List.map_cons, List.map_nil] at hv
          rcases hx : evD s.e x with ((l | q) | q)
          · rcases hy : evD s.e y with ((l' | q) | q)
            · rw [hx, hy] at hv
              cases l <;> first | (simp only [valK] at hv; cases hv; done) | skip
              cases l' <;> first | (simp only [valK] at hv; cases hv; done) | skip
              simp only [valK] at hv
              split at hv
              · rename_i hk; subst hk
                exact v_min hr hd ho hx hy hv
              · cases hv
            · rw [hx, hy] at hv; cases l <;> (simp only [valK] at hv; cases hv)
            · rw [hx, hy] at hv; cases l <;> (simp only [valK] at hv; cases hv)
          · rw [hx] at hv; simp only [valK] at hv; cases hv
          · rw [hx] at hv; simp only [valK] at hv; cases hv
        · rw [hargs] at hv; simp only [List.map_cons] at hv
          generalize evD s.e y = dy at hv
          generalize evD s.e z = dz at hv
          rcases hx : evD s.e x with ((l | q) | q) <;> rw [hx] at hv
          · rcases dy with ((l' | q) | q)
            · cases l <;> first | (simp only [valK] at hv; cases hv; done) | skip
            · cases l <;> (simp only [valK] at hv; cases hv)
            · cases l <;> (simp only [valK] at hv; cases hv)
          · simp only [valK] at hv; cases hv
          · simp only [valK] at hv; cases hv
      exfalso
      cases b <;> first | exact hlen rfl | exact hmax rfl | exact hmin rfl | (simp only [valK] at hv; cases hv; done)
    | value f =>
      have hops : (Op.call { callee := .value f, args := args, argTypes := tys }).operands.toList = f :: args.toList := by
        simp [Op.operands, Call.operands]
      rw [hops, List.map_cons] at hv
      cases hf : evD s.e f with
      | tup q => rw [hf] at hv; simp only [valK] at hv; cases hv
      | v d => cases d with
        | agg q => rw [hf] at hv; simp only [valK] at hv; cases hv
        | one l =>
          rw [hf] at hv
          cases l <;> first | (simp only [valK] at hv; cases hv; done) | skip
          rename_i gf
          simp only [valK] at hv
          split at hv
          · rename_i sp hsp
            cases hid : sp.idN with
            | some n =>
              rw [hid] at hv
              simp only at hv
              split at hv
              · rename_i ls hls
                split at hv
                · rename_i hln
                  exact v_idn hr hfr hd ho hf (hT gf sp (by rw [hsp]; exact .head _)) hid hln hls hv
                · cases hv
              · cases hv
            | none =>
            rw [hid] at hv
            simp only at hv
            split at hv
            · rename_i x ids hx
              cases h8 : Nat.ble (nobA (sp.outs ++ backs sp.ins)) 8 with
              | false => rw [h8] at hv; cases hv
              | true =>
                rw [h8] at hv
                simp only [cond_true] at hv
                cases hy : sp.sem x with
                | none => rw [hy] at hv; cases hv
                | some y =>
                  rw [hy] at hv
                  exact v_call hvw hr hfr hd ho hf (hT gf sp (by rw [hsp]; exact .head _)) hx (Nat.le_of_ble_eq_true h8) hy hv
            · cases hv
          · cases hv
  | store => simp only [valK] at hv; cases hv
  | _ => simp only [valK] at hv; cases hv

end
end Go.Proofs.Fr

/- The operations that write: stores, appends. -/
namespace Go.Proofs.Fr
open Go Go.RowKit

variable {P : Program} {B : Bs} {nt : Nat} {fr : Nat → Prop} {s : S} {g : Nat → Value} {a : Act} {w w' : World} {R : Type} {H : Nat → Ob} {ok ok' : Nat → Prop}

section
variable {o : Oper} {id0 : Nat} {k : S → D → Option R} {r : R} {hb : Nat → Ob}

theorem putTD_R {ls news : List L} {cs vs : List Value} (off : Nat) (h : All2 (LR g H w ok) ls cs) (h' : All2 (LR g H w ok) news vs) : All2 (LR g H w ok) (putTD ls off news) (cs.take off ++ vs ++ cs.drop (off + vs.length)) := by
  unfold putTD
  rw [h'.len]
  exact ((h.take off).app h').app (h.drop _)

theorem putTD_mem {ls news : List L} {off : Nat} : ∀ l ∈ putTD ls off news, l ∈ ls ∨ l ∈ news := by
  intro l hl
  simp only [putTD, List.mem_append] at hl
  rcases hl with (hl | hl) | hl
  · exact .inl (List.mem_of_mem_take hl)
  · exact .inr hl
  · exact .inl (List.mem_of_mem_drop hl)

theorem run_store_at {T : TypeId} {ti : TI} (hti : tinfo P T = some ti) {kb off : Nat} {arr : Array Value} {E : Nat} {v : Value} (hsz : v.cells.size = ti.size) (hh : w.heap[kb]? = some (.cells arr E (0, 0))) (hfit : off + v.cells.size ≤ arr.size)
    (h1 : ∀ u ∈ v.cells.toList, u.oneCell' = true) :
    (Instr.storeAt T (.pointer (some ⟨kb, off, none⟩)) v).run P w = .ok () (w.setRow kb (arr.toList.take off ++ v.cells.toList ++ arr.toList.drop (off + v.cells.toList.length)).toArray) := by
  have hs := run_storeCells_at (P := P) kb off E v.cells.toList 0 arr w hh (by simpa using hfit) h1
  simp only [Nat.add_zero] at hs
  simp only [Instr.storeAt, Instr.sureAddr, storeVar, Sem.run_bind, Sem.run_pure, Result.andThen_ok, run_sizeOf hti, hsz, ne_eq, not_true_eq_false, if_false]
  exact hs

theorem D0R_one {d : D0} {v : Value} (hs : d.ls.all L.solid = true) (h : D0R g H w ok d v) : ∀ u ∈ v.cells.toList, u.oneCell' = true := by
  have hc := D0R_cells hs h
  intro u hu
  obtain ⟨i, hi, rfl⟩ := List.getElem_of_mem hu
  have hi' : i < d.ls.length := by rw [hc.len]; exact hi
  exact solid_one (List.all_eq_true.1 hs _ (List.getElem_mem hi')) (hc.get i hi' hi)

theorem skip_wp {next : Act → World → Prop} {Q : Exit → Act → World → Prop} (hrun : (execOp a.eval o).run P w = .ok .skip w') (h : next (a.put o.dst undef) w') : o.wp P a w next Q := by
  unfold Oper.wp; rw [hrun]; exact h

theorem store_run {T : TypeId} {x y : Operand} (ho : o.op = .store T x y) {p v : Value} (hp : a.eval x = p) (hv : a.eval y = v) (h : (Instr.storeAt T p v).run P w = .ok () w') : (execOp a.eval o).run P w = .ok .skip w' := by
  subst hp; subst hv
  simp only [execOp, ho, Sem.run_bind, h, Result.andThen_ok, Sem.run_pure]

theorem w_storeBox (hhb : ∀ id, hb id = .gone ∨ hb id = s.H id) (hr : Rel B nt fr s g a w) (hd : dstOk nt o.dst = true) {T : TypeId} {x y : Operand} (ho : o.op = .store T x y) {id off : Nat} {d : D0} (hx : evD s.e x = .one (.ptr id off)) (hy : evD s.e y = .v d)
    {ti : TI} (hti : tinfo P T = some ti) (hsz : d.ls.length = ti.size) (hso : d.ls.all L.solid = true) {T0 : Nat} {ls : List L} (hb0 : hb id = .box T0 ls) (hfit : off + d.ls.length ≤ ls.length)
    (hv : k { s with H := upd s.H id (.box T0 (putTD ls off d.ls)), dt := id :: s.dt } (.one .undef) = some r) : WGoal P B nt fr id0 s a w o k r := by
  have hb1 : s.H id = .box T0 ls := by rcases hhb id with e | e <;> rw [e] at hb0; cases hb0; exact hb0
  obtain ⟨hx1, _⟩ := ev_R hr x
  obtain ⟨hy1, hyi⟩ := ev_R hr y
  rw [hx] at hx1
  rw [hy] at hy1 hyi
  have hob := hr.objs id
  rw [hb1] at hob
  obtain ⟨kb, arr, hg, hh, ha⟩ := hob
  obtain ⟨kb', hg', hva⟩ := hx1.2 (.nil, 0) (by rw [hb1]; rfl)
  rw [hg] at hg'; cases hg'
  have hcells := D0R_cells hso hy1
  have hvs : (a.eval y).cells.size = d.ls.length := by rw [← Array.length_toList]; exact hcells.len.symm
  have hal : arr.size = ls.length := by rw [← Array.length_toList]; exact ha.len.symm
  have hrun := run_store_at (P := P) hti (v := a.eval y) (by rw [hvs, hsz]) hh (by rw [hvs, hal]; exact hfit) (D0R_one hso hy1)
  refine ⟨_, _, hv, ⟨rfl, rfl, [id], rfl, fun j _ hj => upd_ne _ _ (by simpa using hj)⟩, fun next Q hn => ?_⟩
  refine skip_wp (store_run ho hva rfl hrun) (hn g _ _ ?_)
  refine Rel.put_ ?_ hd (d := .one .undef) (v := undef) trivial (by simp [D.ids, D0.ids, D0.ls, L.ids])
  have hown : owned g s.H id = some kb := by simp [owned, hb1, hg, blkOf]
  refine Rel.step hr (· = id) rfl (fun j h => h.1) ?_ ?_ ?_ ?_ ?_ rfl rfl rfl (by simp) ?_ ?_ ?_
  · intro j hj; exact ⟨upd_ne _ _ hj, rfl⟩
  · rintro j rfl _; exact .inr ⟨by simp only [upd_same, hb1]; rfl, rfl⟩
  · rintro j q rfl hq
    refine .inr ⟨j, rfl, ?_⟩
    simpa only [owned, upd_same, hb1] using hq
  · rintro i j q rfl rfl _ _; rfl
  · intro q hq hne
    exact setRow_other w kb q _ (fun e => hne id rfl (e ▸ hown))
  · intro hk hc j hj
    subst hj
    simp only [upd_same]
    refine ⟨kb, _, hg, setRow_heap w kb arr _ _ _ hh, ?_⟩
    rw [List.toList_toArray]
    refine (putTD_R off ha hcells).mono_mem fun l v hl h => LR.mono hk (fun q hq => hc q ?_) h
    rcases putTD_mem l hl with h' | h'
    · exact hr.bold j T0 ls hb1 l h' q hq
    · exact hyi q (by simp only [D.ids, D0.ids, List.mem_flatMap]; exact ⟨l, h', hq⟩)
  · intro j hj q hq0 hf
    subst hj
    have hq1 : q ∈ (Ob.box T0 (putTD ls off d.ls)).kids := by simpa only [upd_same] using hq0
    obtain ⟨l, hl, hq⟩ := List.mem_flatMap.1 hq1
    rcases putTD_mem l hl with h' | h'
    · exact hr.bold j T0 ls hb1 l h' q hq hf.1
    · exact hyi q (by simp only [D.ids, D0.ids, List.mem_flatMap]; exact ⟨l, h', hq⟩) hf.1
  · intro j hf
    have := hr.fresh j hf.1
    have hne : j ≠ id := fun e => by rw [e, hb1] at this; cases this
    simp only [upd_ne _ _ hne]; exact this

/-- Cells written within one element of a row. -/
theorem flat_set (n : Nat) : ∀ (css : List (List Value)) (i off : Nat) (vs : List Value), (∀ c ∈ css, c.length = n) → i < css.length → off + vs.length ≤ n →
    css.flatten.take (i * n + off) ++ vs ++ css.flatten.drop (i * n + off + vs.length) = (css.set i ((css.getD i []).take off ++ vs ++ (css.getD i []).drop (off + vs.length))).flatten
  | [], _, _, _, _, h, _ => by simp at h
  | c :: css, 0, off, vs, hl, _, ho => by
    have hc := hl c (.head _)
    simp only [List.flatten_cons, Nat.zero_mul, Nat.zero_add, List.set_cons_zero, List.getD_cons_zero]
    rw [List.take_append_of_le_length (by omega), List.drop_append_of_le_length (by omega)]
    simp
  | c :: css, i + 1, off, vs, hl, hi, ho => by
    have hc := hl c (.head _)
    have ih := flat_set n css i off vs (fun c h => hl c (.tail _ h)) (by simpa using hi) ho
    simp only [List.flatten_cons, List.set_cons_succ, List.getD_cons_succ]
    rw [← ih]
    have e1 : (i + 1) * n + off = c.length + (i * n + off) := by rw [hc, Nat.add_mul]; omega
    rw [e1, List.take_length_add_append, show c.length + (i * n + off) + vs.length = c.length + (i * n + off + vs.length) by omega, List.drop_length_add_append]
    simp

theorem w_storeRow (hhb : ∀ id, hb id = .gone ∨ hb id = s.H id) (hr : Rel B nt fr s g a w) (hd : dstOk nt o.dst = true) {T : TypeId} {x y : Operand} (ho : o.op = .store T x y) {id i off : Nat} {d : D0} (hx : evD s.e x = .one (.elo id i off)) (hy : evD s.e y = .v d)
    {ti : TI} (hti : tinfo P T = some ti) (hsz : d.ls.length = ti.size) (hso : d.ls.all L.solid = true) {E : Nat} {t : Ty} {xs : List t.den} (hb0 : hb id = .row E t xs) {x' : t.den}
    (hp : pjAll (fun j => (hb j).vw) t (putTD (inj t (rdE t xs i)) off d.ls) = some (x', [])) (hfit : off + d.ls.length ≤ t.sz)
    (hv : k { s with H := upd s.H id (.row E t (xs.set i x')), dt := id :: s.dt } (.one .undef) = some r) : WGoal P B nt fr id0 s a w o k r := by
  have hb1 : s.H id = .row E t xs := by rcases hhb id with e | e <;> rw [e] at hb0; cases hb0; exact hb0
  obtain ⟨hx1, _⟩ := ev_R hr x
  obtain ⟨hy1, hyi⟩ := ev_R hr y
  rw [hx] at hx1
  rw [hy] at hy1 hyi
  have hob := hr.objs id
  rw [hb1] at hob
  obtain ⟨hi, kb, m, c, hg, hva⟩ := hx1.2 t xs.length (by rw [hb1]; rfl)
  obtain ⟨css, hcs, hos⟩ := hob
  obtain ⟨kb', cap, cur, hgs, _, hh, hn, hm, hcur, htk⟩ : ∃ kb' cap cur, g id = .slice (some ⟨kb', 0, none⟩) xs.length cap ∧ 0 ≤ kb' ∧ w.heap[kb']? = some (.cells cur E (0, 0)) ∧ xs.length ≤ cap ∧ cap ≤ maxLen ∧ cur.size = cap * t.sz ∧ cur.toList.take (xs.length * t.sz) = css.flatten := by
    rcases hos.2 with ⟨e, _⟩ | h
    · rw [hg] at e; cases e
    · obtain ⟨q, cap, cur, e, r⟩ := h; exact ⟨q, cap, cur, e, r⟩
  rw [hg] at hgs; cases hgs
  have hcells := D0R_cells hso hy1
  have hvs : (a.eval y).cells.size = d.ls.length := by rw [← Array.length_toList]; exact hcells.len.symm
  have hvl : (a.eval y).cells.toList.length = d.ls.length := hcells.len.symm
  have hlen : css.length = xs.length := hcs.len.symm
  have hcl : ∀ c ∈ css, c.length = t.sz := by
    intro c hc
    obtain ⟨j, hj, rfl⟩ := List.getElem_of_mem hc
    exact (hcs.get j (hlen ▸ hj) hj).len
  have hle : (i + 1) * t.sz ≤ xs.length * t.sz := Nat.mul_le_mul_right _ hi
  have hle2 : xs.length * t.sz ≤ c * t.sz := Nat.mul_le_mul_right _ hn
  have hfit2 : i * t.sz + off + (a.eval y).cells.size ≤ cur.size := by rw [hvs, hcur]; rw [Nat.add_mul] at hle; omega
  have hrun := run_store_at (P := P) hti (v := a.eval y) (by rw [hvs, hsz]) hh hfit2 (D0R_one hso hy1)
  refine ⟨_, _, hv, ⟨rfl, rfl, [id], rfl, fun j _ hj => upd_ne _ _ (by simpa using hj)⟩, fun next Q hn' => ?_⟩
  refine skip_wp (store_run ho hva rfl hrun) (hn' g _ _ ?_)
  refine Rel.put_ ?_ hd (d := .one .undef) (v := undef) trivial (by simp [D.ids, D0.ids, D0.ls, L.ids])
  have hown : owned g s.H id = some kb := by simp [owned, hb1, hg, blkOf]
  refine Rel.step hr (· = id) rfl (fun j h => h.1) ?_ ?_ ?_ ?_ ?_ rfl rfl rfl (by simp) ?_ ?_ ?_
  · intro j hj; exact ⟨upd_ne _ _ hj, rfl⟩
  · rintro j rfl _; exact .inr ⟨by simp only [upd_same, hb1, shO, List.length_set], rfl⟩
  · rintro j q rfl hq
    refine .inr ⟨j, rfl, ?_⟩
    simpa only [owned, upd_same, hb1] using hq
  · rintro i j q rfl rfl _ _; rfl
  · intro q hq hne
    exact setRow_other w kb q _ (fun e => hne id rfl (e ▸ hown))
  · intro hk hc j hj
    subst hj
    simp only [upd_same]
    -- the element's cells
    have hic : i < css.length := hlen ▸ hi
    have hel : css.getD i [] = css[i] := by simp [List.getD_eq_getElem?_getD, List.getElem?_eq_getElem hic]
    have hei : En w (okB B g s.H w) t (rdE t xs i) css[i] := by
      have : rdE t xs i = xs[i] := by simp [rdE, List.getD_eq_getElem?_getD, List.getElem?_eq_getElem hi]
      rw [this]; exact hcs.get i hi hic
    have hput := putTD_R (g := g) (H := s.H) off (inj_LR hei) hcells
    have hvwr : ∀ id E t xs, (fun j => (hb j).vw) id = .row E t xs → (s.H id).vw = .row E t xs := by
      intro id E t xs h
      rcases hhb id with e | e
      · simp only [e] at h; cases h
      · simpa only [e] using h
    have hen' := pjAll_En (ok' := okB B g s.H w) hvwr hr.objs (fun _ h => h) hp hput (by simp)
    have hset := flat_set t.sz css i off (a.eval y).cells.toList hcl hic (by rw [hvl]; exact hfit)
    refine ⟨css.set i ((css.getD i []).take off ++ (a.eval y).cells.toList ++ (css.getD i []).drop (off + (a.eval y).cells.toList.length)), ?_, ?_⟩
    · refine All2.mono (fun x c h => En.mono hk h) (hcs.set i ?_)
      rw [hel]; exact hen'
    · refine ⟨?_, .inr ⟨kb, c, _, by rw [hg, List.length_set], Nat.zero_le _, setRow_heap w kb cur _ _ _ hh, by rw [List.length_set]; exact hn, hm, ?_, ?_⟩⟩
      · rw [← hset]
        have hfl := hos.1
        simp only [List.length_append, List.length_take, List.length_drop, hfl, List.length_set, hvl]
        rw [Nat.add_mul] at hle; omega
      · simp only [List.size_toArray, List.length_append, List.length_take, List.length_drop, Array.length_toList, hvl]
        rw [hvs] at hfit2; omega
      · rw [List.length_set, List.toList_toArray, ← hset, ← htk]
        apply List.ext_getElem?
        intro j
        have q1 : i * t.sz + off + d.ls.length ≤ xs.length * t.sz := by rw [Nat.add_mul] at hle; omega
        have q2 : i * t.sz + off ≤ cur.size := by rw [hcur]; omega
        simp only [List.append_assoc, List.getElem?_take, List.getElem?_append, List.length_take, List.getElem?_drop, Array.length_toList, hvl]
        have m1 : min (i * t.sz + off) cur.size = i * t.sz + off := by omega
        have m2 : min (i * t.sz + off) (min (xs.length * t.sz) cur.size) = i * t.sz + off := by omega
        rw [m1, m2]
        by_cases j1 : j < xs.length * t.sz
        · by_cases j2 : j < i * t.sz + off
          · simp [j1, j2]
          · by_cases j3 : j - (i * t.sz + off) < d.ls.length
            · simp [j1, j2, j3]
            · have : i * t.sz + off + d.ls.length + (j - (i * t.sz + off) - d.ls.length) = j := by omega
              simp [j1, j2, j3, this]
        · have j2 : ¬ j < i * t.sz + off := by omega
          have j3 : ¬ j - (i * t.sz + off) < d.ls.length := by omega
          have : i * t.sz + off + d.ls.length + (j - (i * t.sz + off) - d.ls.length) = j := by omega
          simp [j1, j2, j3, this]
  · intro j hj q hq0 hf
    subst hj
    have hq1 : q ∈ (Ob.row E t (xs.set i x')).kids := by simpa only [upd_same] using hq0
    cases hq1
  · intro j hf
    have := hr.fresh j hf.1
    have hne : j ≠ id := fun e => by rw [e, hb1] at this; cases this
    simp only [upd_ne _ _ hne]; exact this

end
end Go.Proofs.Fr

/- Appends; all operations that write. -/
namespace Go.Proofs.Fr
open Go Go.RowKit

variable {P : Program} {B : Bs} {nt : Nat} {fr : Nat → Prop} {s : S} {g : Nat → Value} {a : Act} {w w' : World} {R : Type} {H : Nat → Ob} {ok ok' : Nat → Prop}

/-- Elements that lie in a row, wherever. -/
def SrcR (w : World) (ok : Nat → Prop) (t : Ty) (ys : List t.den) (v : Value) : Prop :=
  ∃ A c css, v = .slice A ys.length c ∧ All2 (En w ok t) ys css ∧ ∀ j u, css.flatten[j]? = some u → ∃ ad, A = some ad ∧ w.cell? (ad.add j) = some u

theorem RowO.src {E : Nat} {t : Ty} {xs : List t.den} {v : Value} (h : RowO w ok E t xs v) : SrcR w ok t xs v := by
  obtain ⟨A, c, hv, _, hA⟩ := h.slice_
  obtain ⟨css, hc, ho⟩ := h
  refine ⟨A, c, css, hv, hc, fun j u hj => ?_⟩
  rcases ho.2 with ⟨rfl, h0⟩ | ⟨q, cap, cur, hq, _⟩
  · have hlen := ho.1
    rw [h0, Nat.zero_mul] at hlen
    rw [List.eq_nil_of_length_eq_zero hlen] at hj; simp at hj
  · have hb : blkOf v = some q := by rw [hq]; rfl
    refine ⟨_, hA q hb, ?_⟩
    have := ho.cells (g := q) (by rw [hq]; rfl) j u hj
    exact this

theorem pick_list {α β : Type} {Q : α → β → Prop} : ∀ (xs : List α), (∀ i (h : i < xs.length), ∃ b, Q xs[i] b) → ∃ bs, All2 Q xs bs
  | [], _ => ⟨[], trivial⟩
  | x :: xs, h => by
    obtain ⟨b, hb⟩ := h 0 (by simp)
    obtain ⟨bs, hbs⟩ := pick_list xs fun i hi => by have := h (i + 1) (by simpa using hi); simpa using this
    exact ⟨b :: bs, hb, hbs⟩

theorem flat_inv {α : Type} {Q : α → List Value → Prop} (n : Nat) : ∀ {xs : List α} {css : List (List Value)}, All2 Q xs css → (∀ x c, Q x c → c.length = n) → ∀ j u, css.flatten[j]? = some u → ∃ i c r, css[i]? = some c ∧ c[r]? = some u ∧ j = i * n + r
  | [], [], _, _, j, u, h => by simp at h
  | [], _ :: _, h, _, _, _, _ => h.elim
  | _ :: _, [], h, _, _, _, _ => h.elim
  | x :: xs, c0 :: css, h, hl, j, u, hj => by
    have h0 := hl x c0 h.1
    simp only [List.flatten_cons] at hj
    by_cases hlt : j < c0.length
    · rw [List.getElem?_append_left hlt] at hj
      exact ⟨0, c0, j, rfl, hj, by omega⟩
    · rw [List.getElem?_append_right (by omega)] at hj
      obtain ⟨i, c, r, h1, h2, h3⟩ := flat_inv n h.2 hl _ u hj
      refine ⟨i + 1, c, r, by simpa using h1, h2, ?_⟩
      rw [Nat.add_mul]; omega

theorem En.src {E : Nat} {t : Ty} {ys : List t.den} {v : Value} (h : En w ok (.sl E t) ys [v]) : SrcR w ok t ys v := by
  obtain ⟨A, c, he, _, hr⟩ := h
  simp only [List.cons.injEq, and_true] at he
  obtain ⟨css, hcs⟩ := pick_list (Q := fun x cs => En w ok t x cs) ys fun i hi => by
    obtain ⟨_, _, cs, _, _, hen, _⟩ := hr i hi
    exact ⟨cs, hen⟩
  -- the same cells, by their places
  have hcell : ∀ i (hi : i < List.length (α := t.den) ys), ∃ k o cs, A = some ⟨k, o, none⟩ ∧ En w ok t (ys[i]'hi) cs ∧ ∀ j (hj : j < cs.length), w.cell? ⟨k, o + i * t.sz + j, none⟩ = some cs[j] := fun i hi => by
    obtain ⟨k, o, cs, hA, _, hen, hc⟩ := hr i hi
    exact ⟨k, o, cs, hA, hen, hc⟩
  clear hcs css
  obtain ⟨css, hcs⟩ : ∃ css : List (List Value), All2 (fun (p : t.den × Nat) cs => En w ok t p.1 cs ∧ ∃ k o, A = some ⟨k, o, none⟩ ∧ ∀ j (hj : j < cs.length), w.cell? ⟨k, o + p.2 * t.sz + j, none⟩ = some cs[j]) (ys.zipIdx) css := by
    refine pick_list _ fun i hi => ?_
    have hi' : i < List.length (α := t.den) ys := by simpa using hi
    obtain ⟨k, o, cs, hA, hen, hc⟩ := hcell i hi'
    refine ⟨cs, ?_, k, o, hA, ?_⟩
    · simpa using hen
    · simpa using hc
  have hlen : css.length = ys.length := by have := hcs.len; simpa using this.symm
  refine ⟨A, c, css, he, All2.of_get hlen.symm fun i hi hi' => ?_, fun j u hj => ?_⟩
  · have := (hcs.get i (by simpa using hi) hi').1
    simpa using this
  · obtain ⟨i, c', r, h1, h2, h3⟩ := flat_inv t.sz hcs (fun _ _ h => h.1.len) j u hj
    obtain ⟨hi, rfl⟩ := List.getElem?_eq_some_iff.1 h1
    obtain ⟨hr', rfl⟩ := List.getElem?_eq_some_iff.1 h2
    obtain ⟨_, k, o, hA, hc⟩ := hcs.get i (by simp; omega) hi
    refine ⟨_, hA, ?_⟩
    rw [add_at, h3, ← Nat.add_assoc]
    have := hc r hr'
    simpa using this

theorem All2_one {t : Ty} {xs : List t.den} {css : List (List Value)} (h : All2 (En w ok t) xs css) : ∀ u ∈ css.flatten, u.oneCell' = true := by
  intro u hu
  obtain ⟨c, hc, hu'⟩ := List.mem_flatten.1 hu
  obtain ⟨i, hi, rfl⟩ := List.getElem_of_mem hc
  exact (h.get i (h.len ▸ hi) hi).one u hu'

theorem blk_own (v : Value) (h : ∀ p, v ≠ .pointer p) : v.ownBlock = blkOf v := by
  cases v <;> first | rfl | skip
  case slice A n c => cases A <;> rfl
  case pointer p => exact absurd rfl (h p)

/-- What an append does to a row, its elements told by their cells. -/
theorem app_core {T e : TypeId} {ti : TI} (hT : P.underlying T = some (.slice e)) (hti : tinfo P e = some ti) {t : Ty} (h2 : ti.size = t.sz) (h3 : 0 < t.sz) (h4 : 0 < ti.bytes) (h5 : ti.zero.cells.size = ti.size) {xs ys : List t.den} {v y : Value} {css : List (List Value)}
    (hown : w.ownsRow 0 e t.sz v xs.length css.flatten) (hsrc : SrcR w ok t ys y) (hlim : xs.length + ys.length ≤ maxBytes / ti.bytes) (ty : TypeId) :
    ∃ v' w' csy, (Builtin.append_ #[T, T] ty #[v, y]).run P w = .ok v' w' ∧ All2 (En w ok t) ys csy ∧ w'.ownsRow 0 e t.sz v' (xs.length + ys.length) (css.flatten ++ csy.flatten) ∧ w.grownBy w' v.ownBlock ∧ (v'.ownBlock = v.ownBlock ∨ v'.ownBlock = some w.heap.size) := by
  obtain ⟨hu, it, hit, hz', hsz, hby⟩ := tinfo_facts hti
  obtain ⟨A, c, csy, rfl, hcs, hcell⟩ := hsrc
  have hmul : (xs.length + ys.length) * ti.bytes ≤ maxBytes := (Nat.le_div_iff_mul_le h4).1 hlim
  have hfl := flat_len (R := En w ok t) t.sz hcs (fun _ _ h => h.len)
  cases A with
  | some ad =>
    obtain ⟨v', w', q1, q2, q3, _, q5⟩ := run_append_own_at (P := P) w 0 T ty e it ti.zero t.sz ti.bytes hT hit hz' (by rw [hsz, h2]) hby (by rw [h5, h2]) h3 v xs.length css.flatten hown ad ys.length c csy.flatten hfl
      (fun j u hj => by obtain ⟨ad', e1, e2⟩ := hcell j u hj; cases e1; exact e2) (All2_one hcs)
      (by have := Nat.le_mul_of_pos_right (xs.length + ys.length) h4; unfold maxBytes at hmul; unfold maxLen; omega) (by unfold maxBytes at hmul; exact hmul) (Nat.zero_le _)
    exact ⟨v', w', csy, q1, hcs, q2, q3, q5⟩
  | none =>
    have hys : ys = [] := by
      cases ys with
      | nil => rfl
      | cons y ys =>
        have : 0 < csy.flatten.length := by rw [hfl]; simp only [List.length_cons]; exact Nat.mul_pos (by omega) h3
        obtain ⟨ad, e1, _⟩ := hcell 0 _ (List.getElem?_eq_getElem this)
        cases e1
    subst hys
    have hcsy : csy = [] := All2.nil_l hcs
    subst hcsy
    refine ⟨v, w, [], ?_, trivial, by simpa using hown, ⟨rfl, rfl, rfl, Nat.le_refl _, fun _ _ _ => rfl⟩, .inl rfl⟩
    rcases hown.2 with ⟨rfl, h0⟩ | ⟨q, cap, cur, rfl, _, hh, hn, _⟩
    · simp [Builtin.append_, run_underlying hT, sizeOf, typeInfo, hit, Builtin.lenOf, Builtin.firstCells]
    · have : (storeCells ⟨q, xs.length * it.size, none⟩ [] 0).run P w = .ok () w := rfl
      simp [Builtin.append_, run_underlying hT, sizeOf, typeInfo, hit, Builtin.lenOf, Builtin.firstCells, hn, storeCells]

section
variable {o : Oper} {id0 : Nat} {k : S → D → Option R} {r : R} {hb : Nat → Ob}

theorem srcOf_R (hhb : ∀ id, hb id = .gone ∨ hb id = s.H id) (hr : Rel B nt fr s g a w) {y : Operand} {b : L} (hy : evD s.e y = .one b) {t : Ty} {ys : List t.den} (h : srcOf t hb b = some ys) : SrcR w (okB B g s.H w) t ys (a.eval y) := by
  obtain ⟨hy1, _⟩ := ev_R hr y
  rw [hy] at hy1
  cases b <;> simp only [srcOf] at h <;> try cases h
  case row E t' xs =>
    split at h
    · rename_i ht; subst ht; cases h
      exact En.src (show En w (okB B g s.H w) (.sl E t') xs [a.eval y] from hy1)
    · cases h
  case nils =>
    rw [show a.eval y = .slice none 0 0 from hy1]
    exact ⟨none, 0, [], rfl, trivial, fun j u hj => by simp at hj⟩
  case own id =>
    split at h
    · rename_i E t' xs hv
      split at h
      · rename_i ht; subst ht; cases h
        have hv' : (s.H id).vw = .row E t' xs := by rcases hhb id with e | e <;> rw [e] at hv; cases hv; exact hv
        have hva : a.eval y = g id := hy1.2 t' xs.length (sh_of_vw hv')
        rw [hva]
        have hob := hr.objs id
        cases e : s.H id with
        | gone => rw [e] at hv'; cases hv'
        | box T ls => rw [e] at hv'; cases hv'
        | row E' t'' xs' => rw [e] at hv' hob; cases hv'; exact RowO.src hob
        | fr E' t'' xs' => rw [e] at hv' hob; cases hv'; exact En.src hob.1
        | fbx T ls => rw [e] at hv'; cases hv'
        | clo f ls => rw [e] at hv'; cases hv'
      · cases h
    · cases h
  case cut id n =>
    split at h
    · rename_i E' t' xs hv
      split at h
      · rename_i ht; subst ht; cases h
        have hv' : (s.H id).vw = .row E' t' xs := by rcases hhb id with e | e <;> rw [e] at hv; cases hv; exact hv
        obtain ⟨hn, A, c, hg, hva⟩ := hy1.2 t' xs.length (sh_of_vw hv')
        rw [hva]
        have hob := hr.objs id
        cases e : s.H id with
        | gone => rw [e] at hv'; cases hv'
        | box T ls => rw [e] at hv'; cases hv'
        | row E' t'' xs' =>
          rw [e] at hv' hob; cases hv'
          have hob2 : RowO w (okB B g s.H w) E' t' xs (g id) := hob
          rw [hg] at hob2
          exact RowO.src (RowO.take_ hob2 hn)
        | fr E' t'' xs' =>
          rw [e] at hv' hob; cases hv'
          have hob2 : En w (okB B g s.H w) (.sl E' t') xs [g id] := hob.1
          rw [hg] at hob2
          exact En.src (En.take_ hob2 hn)
        | fbx T ls => rw [e] at hv'; cases hv'
        | clo f ls => rw [e] at hv'; cases hv'
      · cases h
    · cases h

theorem app_run {T : TypeId} {x y : Operand} (ho : o.op = .call { callee := .builtin .append, args := #[x, y], argTypes := #[T, T] }) {v v' u : Value} (hx : a.eval x = v) (hy : a.eval y = u) (h : (Builtin.append_ #[T, T] o.type #[v, u]).run P w = .ok v' w') :
    (execOp a.eval o).run P w = .ok (.value v') w' := by
  subst hx; subst hy
  simp [execOp, ho, resolve, invoke, builtin, h]

theorem w_append (hhb : ∀ id, hb id = .gone ∨ hb id = s.H id) (hr : Rel B nt fr s g a w) (hfr : ∀ j, id0 ≤ j → j < id0 + 8 → fr j) (hd : dstOk nt o.dst = true) {T e : TypeId} {x y : Operand} (ho : o.op = .call { callee := .builtin .append, args := #[x, y], argTypes := #[T, T] })
    {l b : L} (hx : evD s.e x = .one l) (hy : evD s.e y = .one b) (hT : P.underlying T = some (.slice e)) {ti : TI} (hti : tinfo P e = some ti) {t : Ty} (h2 : ti.size = t.sz) (h3 : 0 < t.sz) (h4 : 0 < ti.bytes) (h5 : ti.zero.cells.size = ti.size) {xs ys : List t.den} (hs : srcOf t hb b = some ys)
    {H' : Nat → Ob} {dt' : List Nat} {who : Option Nat} (hl : (who = none ∧ l = .nils ∧ xs = [] ∧ H' = upd s.H id0 (.row e t ys) ∧ dt' = s.dt) ∨ ∃ id, ∃ xs0 : List t.den, who = some id ∧ ((l = .own id ∧ xs = xs0) ∨ ∃ n, l = .cut id n ∧ xs = xs0.take n) ∧ hb id = .row e t xs0 ∧ H' = upd (upd s.H id .gone) id0 (.row e t (xs ++ ys)) ∧ dt' = id :: s.dt) (hlim : xs.length + ys.length ≤ maxBytes / ti.bytes)
    (hv : k { s with H := H', dt := dt' } (.one (.own id0)) = some r) : WGoal P B nt fr id0 s a w o k r := by
  obtain ⟨hx1, hxi⟩ := ev_R hr x
  rw [hx] at hx1 hxi
  have hsrc := srcOf_R hhb hr hy hs
  have hgone : s.H id0 = .gone := hr.fresh id0 (hfr id0 (Nat.le_refl _) (by omega))
  -- the row that grows
  have hrow : ∃ css, All2 (En w (okB B g s.H w) t) xs css ∧ w.ownsRow 0 e t.sz (a.eval x) xs.length css.flatten ∧ (∀ p, a.eval x ≠ .pointer p) ∧
      ((who = none ∧ blkOf (a.eval x) = none) ∨ ∃ id, ∃ xs0 : List t.den, who = some id ∧ s.H id = .row e t xs0 ∧ blkOf (a.eval x) = blkOf (g id) ∧ id ≠ id0) := by
    rcases hl with ⟨hw, rfl, rfl, _, _⟩ | ⟨id, xs0, hw, hlx, hb0, _, _⟩
    · have : a.eval x = .slice none 0 0 := hx1
      rw [this]
      exact ⟨[], trivial, World.ownsRow_nil _ _ _ _, by simp, .inl ⟨hw, rfl⟩⟩
    · have hb1 : s.H id = .row e t xs0 := by rcases hhb id with e | e <;> rw [e] at hb0; cases hb0; exact hb0
      have hne : id ≠ id0 := fun e => by rw [e, hgone] at hb1; cases hb1
      have hob := hr.objs id
      rw [hb1] at hob
      obtain ⟨A, c, hsl, _⟩ := RowO.slice_ hob
      have hfin : ∀ A' n c', a.eval x = .slice A' n c' → A' = A → RowO w (okB B g s.H w) e t xs (a.eval x) → ∃ css, All2 (En w (okB B g s.H w) t) xs css ∧ w.ownsRow 0 e t.sz (a.eval x) xs.length css.flatten ∧ (∀ p, a.eval x ≠ .pointer p) ∧
          ((who = none ∧ blkOf (a.eval x) = none) ∨ ∃ id, ∃ xs0 : List t.den, who = some id ∧ s.H id = .row e t xs0 ∧ blkOf (a.eval x) = blkOf (g id) ∧ id ≠ id0) := by
        intro A' n c' hva hA ho
        obtain ⟨css, hc, ho'⟩ := ho
        refine ⟨css, hc, ho', by rw [hva]; simp, .inr ⟨id, xs0, hw, hb1, ?_, hne⟩⟩
        rw [hva, hsl, hA]
        cases A <;> rfl
      rcases hlx with ⟨rfl, rfl⟩ | ⟨n, rfl, rfl⟩
      · have hva : a.eval x = g id := hx1.2 t xs.length (by rw [hb1]; rfl)
        exact hfin A _ c (hva.trans hsl) rfl (hva ▸ hob)
      · obtain ⟨hn, A', c', hg, hva⟩ := hx1.2 t xs0.length (by rw [hb1]; rfl)
        rw [hg] at hsl
        cases hsl
        refine hfin _ _ _ hva rfl ?_
        rw [hva]
        have hob2 : RowO w (okB B g s.H w) e t xs0 (g id) := hob
        rw [hg] at hob2
        exact RowO.take_ hob2 hn
  obtain ⟨css, hcs, hown, hnp, hwho⟩ := hrow
  obtain ⟨v', w', csy, hrun, hcy, hown', hgrow, hat⟩ := app_core hT hti h2 h3 h4 h5 hown hsrc hlim o.type
  have hv'np : ∀ p, v' ≠ .pointer p := by
    intro p e
    rcases hown'.2 with ⟨h, _⟩ | ⟨q, cap, cur, h, _⟩ <;> rw [h] at e <;> cases e
  have hbv' : blkOf v' = v'.ownBlock := (blk_own v' hv'np).symm
  have hbx : blkOf (a.eval x) = (a.eval x).ownBlock := (blk_own _ hnp).symm
  have hxy : xs.length + ys.length = (xs ++ ys).length := by simp
  -- all in one
  have main : ∀ (tch : Nat → Prop), (∀ j, tch j ↔ (j = id0 ∨ who = some j)) → H' id0 = .row e t (xs ++ ys) → (∀ j, ¬ tch j → H' j = s.H j) → (∀ j, who = some j → j ≠ id0 → H' j = .gone) →
      Rel B nt (less fr id0) { s with H := H', dt := dt' } (upd g id0 v') a w' := by
    intro tch htch h0 hun hgn
    have hownx : ∀ q, blkOf (a.eval x) = some q → ∃ j, who = some j ∧ owned g s.H j = some q := by
      intro q hq
      rcases hwho with ⟨_, e2⟩ | ⟨id, xs0, e1, e2, e3, _⟩
      · rw [e2] at hq; cases hq
      · exact ⟨id, e1, by simpa [owned, e2, ← e3] using hq⟩
    have own' : ∀ j q, tch j → owned (upd g id0 v') H' j = some q → j = id0 ∧ blkOf v' = some q := by
      intro j q hj hq
      by_cases e1 : j = id0
      · subst e1
        refine ⟨rfl, ?_⟩
        simpa [owned, h0, upd_same] using hq
      · have := (htch j).1 hj
        simp only [owned, hgn j (this.resolve_left e1) e1] at hq
        cases hq
    refine Rel.step hr tch rfl (fun j h => h.1) ?_ ?_ ?_ ?_ ?_ hgrow.os hgrow.tape hgrow.output hgrow.size ?_ ?_ ?_
    · intro j hj
      refine ⟨hun j hj, upd_ne _ _ fun e => hj ((htch j).2 (.inl e))⟩
    · intro j hj hf
      have hne : j ≠ id0 := fun e => hf (e ▸ hfr id0 (Nat.le_refl _) (by omega))
      left
      show shO (H' j) = none
      rw [hgn j (((htch j).1 hj).resolve_left hne) hne]; rfl
    · intro j q hj hq
      obtain ⟨rfl, hq'⟩ := own' j q hj hq
      rw [hbv'] at hq'
      rcases hat with h | h
      · rw [h, ← hbx] at hq'
        obtain ⟨j', h1, h2⟩ := hownx q hq'
        exact .inr ⟨j', (htch j').2 (.inr h1), h2⟩
      · rw [h] at hq'; cases hq'; exact .inl (Nat.le_refl _)
    · intro i j q hi hj hiq hjq
      rw [(own' i q hi hiq).1, (own' j q hj hjq).1]
    · intro q hq hne
      refine hgrow.block q hq fun e => ?_
      obtain ⟨j', h1, h2⟩ := hownx q (hbx.trans e.symm)
      exact hne j' ((htch j').2 (.inr h1)) h2
    · intro hk hc j hj
      by_cases e1 : j = id0
      · subst e1
        show OB _ _ _ _ _ (H' j)
        rw [h0]
        show RowO _ _ _ _ _ (upd g j v' j)
        rw [upd_same]
        refine ⟨css ++ csy, (hcs.app hcy).mono fun _ _ h => En.mono hk h, ?_⟩
        rw [← hxy, List.flatten_append]; exact hown'
      · show OB _ _ _ _ _ (H' j)
        rw [hgn j (((htch j).1 hj).resolve_left e1) e1]; trivial
    · intro j hj q hq
      have hq' : q ∈ (H' j).kids := hq
      by_cases e1 : j = id0
      · subst e1; rw [h0] at hq'; cases hq'
      · rw [hgn j (((htch j).1 hj).resolve_left e1) e1] at hq'; cases hq'
    · intro j hf
      have hne : j ≠ id0 := fun e => hf.2 ⟨by omega, by omega⟩
      show H' j = .gone
      by_cases hj : tch j
      · exact hgn j (((htch j).1 hj).resolve_left hne) hne
      · rw [hun j hj]; exact hr.fresh j hf.1
  have hext : WExt id0 s { s with H := H', dt := dt' } := by
    rcases hl with ⟨_, _, _, h1, h2⟩ | ⟨id, _, _, _, _, h1, h2⟩
    · exact ⟨rfl, rfl, [], h2, fun j hj _ => by show H' j = _; rw [h1, upd_ne _ _ (by omega)]⟩
    · exact ⟨rfl, rfl, [id], h2, fun j hj hn => by show H' j = _; rw [h1, upd_ne _ _ (by omega), upd_ne _ _ (by simpa using hn)]⟩
  refine ⟨_, _, hv, hext, fun next Q hn => ?_⟩
  have hrun' := app_run (P := P) ho rfl rfl hrun
  unfold Oper.wp
  rw [hrun']
  refine hn (upd g id0 v') _ _ (Rel.put_ ?_ hd (d := .one (.own id0)) ?_ ?_)
  · rcases hl with ⟨rfl, rfl, rfl, rfl, _⟩ | ⟨id, xs0, rfl, hlx, hb0, rfl, _⟩
    · refine main (fun j => j = id0) (fun j => by simp) (by simp [upd_same]) (fun j hj => upd_ne _ _ hj) (fun j hj => by cases hj)
    · have hne : id ≠ id0 := by
        rcases hwho with ⟨h, _⟩ | ⟨id', _, h, _, _, h'⟩ <;> cases h
        exact h'
      refine main (fun j => j = id0 ∨ j = id) (fun j => by simp only [Option.some.injEq]; constructor <;> (rintro (h | h); exact .inl h; exact .inr h.symm)) (by simp [upd_same]) (fun j hj => ?_) (fun j hj hj' => ?_)
      · rw [upd_ne _ _ (fun h => hj (.inl h)), upd_ne _ _ (fun h => hj (.inr h))]
      · cases hj; rw [upd_ne _ _ hj', upd_same]
  · refine ⟨?_, fun t' n _ => (upd_same _ _ _).symm⟩
    rcases hown'.2 with ⟨h, _⟩ | ⟨q, cap, cur, h, _⟩ <;> rw [h] <;> rfl
  · intro j hj hl'
    have : j = id0 := by simpa [D.ids, D0.ids, D0.ls, L.ids] using hj
    subst this
    exact hl'.2 ⟨Nat.le_refl _, by omega⟩

theorem take_flat {t : Ty} : ∀ (css : List (List Value)) (n : Nat), (∀ c ∈ css, c.length = t.sz) → (css.take n).flatten = css.flatten.take (n * t.sz)
  | [], n, _ => by simp
  | c :: css, 0, _ => by simp
  | c :: css, n + 1, hl => by
    have h0 := hl c (.head _)
    simp only [List.take_succ_cons, List.flatten_cons]
    rw [take_flat css n fun c h => hl c (.tail _ h), Nat.add_mul, Nat.one_mul, Nat.add_comm, ← h0, List.take_length_add_append]

theorem drop_flat {t : Ty} : ∀ (css : List (List Value)) (n : Nat), (∀ c ∈ css, c.length = t.sz) → (css.drop n).flatten = css.flatten.drop (n * t.sz)
  | [], n, _ => by simp
  | c :: css, 0, _ => by simp
  | c :: css, n + 1, hl => by
    have h0 := hl c (.head _)
    simp only [List.drop_succ_cons, List.flatten_cons]
    rw [drop_flat css n fun c h => hl c (.tail _ h), Nat.add_mul, Nat.one_mul, Nat.add_comm, ← h0, List.drop_length_add_append]

theorem w_copy (hhb : ∀ id, hb id = .gone ∨ hb id = s.H id) (hr : Rel B nt fr s g a w) (hd : dstOk nt o.dst = true) {T T' e : TypeId} {x y : Operand} (ho : o.op = .call { callee := .builtin .copy, args := #[x, y], argTypes := #[T, T'] })
    {id : Nat} {b : L} (hx : evD s.e x = .one (.own id)) (hy : evD s.e y = .one b) (hT : P.underlying T = some (.slice e)) {ti : TI} (hti : tinfo P e = some ti) {E : Nat} {t : Ty} {xs ys : List t.den} (hb0 : hb id = .row E t xs) (h2 : ti.size = t.sz) (h3 : 0 < t.sz) (hs : srcOf t hb b = some ys)
    (hv : k { s with H := upd s.H id (.row E t (copyL xs ys)), dt := id :: s.dt } (.one (.int .i64 ((min xs.length ys.length : Nat) : Int))) = some r) : WGoal P B nt fr id0 s a w o k r := by
  have hb1 : s.H id = .row E t xs := by rcases hhb id with e | e <;> rw [e] at hb0; cases hb0; exact hb0
  obtain ⟨hx1, _⟩ := ev_R hr x
  rw [hx] at hx1
  have hva : a.eval x = g id := hx1.2 t xs.length (by rw [hb1]; rfl)
  have hob := hr.objs id
  rw [hb1] at hob
  obtain ⟨A, c, csy, hvy, hcy, hcell⟩ := srcOf_R hhb hr hy hs
  obtain ⟨css, hcs, hlen, hos⟩ := hob
  have hcl : ∀ c ∈ css, c.length = t.sz := fun c hc => by obtain ⟨j, hj, rfl⟩ := List.getElem_of_mem hc; exact (hcs.get j (hcs.len ▸ hj) hj).len
  have hcl2 : ∀ c ∈ csy, c.length = t.sz := fun c hc => by obtain ⟨j, hj, rfl⟩ := List.getElem_of_mem hc; exact (hcy.get j (hcy.len ▸ hj) hj).len
  have hfl := flat_len (R := En w (okB B g s.H w) t) t.sz hcy (fun _ _ h => h.len)
  have hfx := flat_len (R := En w (okB B g s.H w) t) t.sz hcs (fun _ _ h => h.len)
  let m := min ys.length xs.length
  have hm : m * t.sz ≤ ys.length * t.sz := Nat.mul_le_mul_right _ (Nat.min_le_left _ _)
  have hm2 : m * t.sz ≤ xs.length * t.sz := Nat.mul_le_mul_right _ (Nat.min_le_right _ _)
  -- the cells that are read
  have hfirst : (Builtin.firstCells t.sz m (a.eval y)).run P w = .ok (csy.flatten.take (m * t.sz)).toArray w := by
    rw [hvy]
    cases A with
    | none =>
      have hys : ys.length * t.sz = 0 := by
        by_cases h0 : csy.flatten.length = 0
        · rw [← hfl, h0]
        · obtain ⟨ad, e1, _⟩ := hcell 0 _ (List.getElem?_eq_getElem (by omega))
          cases e1
      have : m * t.sz = 0 := by omega
      simp [Builtin.firstCells, this]
    | some ad =>
      have := run_loadCells_list (P := P) (w := w) ad (csy.flatten.take (m * t.sz)) (fun j v hj => by
        have hlt := (List.getElem?_eq_some_iff.1 hj).1
        rw [List.getElem?_take_of_lt (by simp only [List.length_take] at hlt; omega)] at hj
        obtain ⟨ad', e1, e2⟩ := hcell j v hj
        cases e1; exact e2)
      have hl : (csy.flatten.take (m * t.sz)).length = m * t.sz := by rw [List.length_take]; omega
      rw [hl] at this
      simpa [Builtin.firstCells] using this
  have h1c : ∀ u ∈ csy.flatten.take (m * t.sz), u.oneCell' = true := fun u hu => All2_one hcy u (List.mem_of_mem_take hu)
  have hcopy : All2 (En w (okB B g s.H w) t) (copyL xs ys) (csy.take xs.length ++ css.drop ys.length) := (hcy.take _).app (hcs.drop _)
  have hcopyl : (copyL xs ys).length = xs.length := by unfold copyL; simp only [List.length_append, List.length_take, List.length_drop]; omega
  have hcat : (csy.take xs.length ++ css.drop ys.length).flatten = csy.flatten.take (m * t.sz) ++ css.flatten.drop (m * t.sz) := by
    rw [List.flatten_append, take_flat csy _ hcl2, drop_flat css _ hcl]
    by_cases hle : xs.length ≤ ys.length
    · have e1 : m = xs.length := Nat.min_eq_right hle
      have q : xs.length * t.sz ≤ ys.length * t.sz := Nat.mul_le_mul_right _ hle
      rw [e1, List.drop_eq_nil_of_le (by rw [hfx]; exact q), List.drop_eq_nil_of_le (by rw [hfx]; exact Nat.le_refl _)]
    · have e1 : m = ys.length := Nat.min_eq_left (by omega)
      have q : ys.length * t.sz ≤ xs.length * t.sz := Nat.mul_le_mul_right _ (by omega)
      rw [e1, List.take_of_length_le (by rw [hfl]; exact q), List.take_of_length_le (by rw [hfl]; exact Nat.le_refl _)]
  have hmin : (goInt m) = .int .i64 ((min xs.length ys.length : Nat) : Int) := by
    show Value.int .i64 _ = _
    rw [Nat.min_comm]
  -- the run, and the row then
  have hrun : ∃ w', (Builtin.copy_ #[T, T'] o.type #[a.eval x, a.eval y]).run P w = .ok (goInt m) w' ∧ w'.ownsRow 0 E t.sz (g id) xs.length (csy.flatten.take (m * t.sz) ++ css.flatten.drop (m * t.sz)) ∧
      w'.os = w.os ∧ w'.tape = w.tape ∧ w'.output = w.output ∧ w'.heap.size = w.heap.size ∧ ∀ q, owned g s.H id ≠ some q → w'.heap[q]? = w.heap[q]? := by
    have hownq : owned g s.H id = blkOf (g id) := by simp [owned, hb1]
    have hlc : (csy.flatten.take (m * t.sz) ++ css.flatten.drop (m * t.sz)).length = xs.length * t.sz := by
      simp only [List.length_append, List.length_take, List.length_drop]; omega
    rcases hos with ⟨e1, h0⟩ | ⟨q, cap, cur, e1, hq, hh, hn, hml, hcur, htk⟩
    · have hm0 : m = 0 := by show min ys.length xs.length = 0; omega
      refine ⟨w, ?_, ⟨by rw [hlc], .inl ⟨e1, h0⟩⟩, rfl, rfl, rfl, rfl, fun _ _ => rfl⟩
      have hfm := hfirst
      rw [hm0] at hfm ⊢
      have hmin0 : Nat.min ys.length 0 = 0 := Nat.min_zero _
      rw [hva, e1]
      rw [hvy] at hfm ⊢
      simp [Builtin.copy_, Builtin.lenOf, run_underlying hT, run_sizeOf hti, h2, hmin0, hfm]
    · rw [htk.symm] at hlc ⊢
      have hst := run_storeCells_at (P := P) q 0 E (csy.flatten.take (m * t.sz)) 0 cur w hh (by rw [List.length_take]; have := Nat.mul_le_mul_right t.sz hn; omega) h1c
      simp only [Nat.add_zero, List.take_zero, List.nil_append, Nat.zero_add] at hst
      refine ⟨w.setRow q (csy.flatten.take (m * t.sz) ++ cur.toList.drop (csy.flatten.take (m * t.sz)).length).toArray, ?_, ⟨?_, .inr ⟨q, cap, _, e1, hq, setRow_heap w q cur _ _ _ hh, hn, hml, ?_, ?_⟩⟩, rfl, rfl, rfl, by simp [World.setRow], fun q' hne => setRow_other w q q' _ (fun e => hne (by rw [hownq, e1, e]; rfl))⟩
      · rw [hva, e1]
        have hmm : Nat.min ys.length xs.length = m := rfl
        rw [hvy] at hfirst ⊢
        simp [Builtin.copy_, Builtin.lenOf, run_underlying hT, run_sizeOf hti, h2, hmm, hfirst, hst]
      · exact hlc
      · simp only [List.size_toArray, List.length_append, List.length_take, List.length_drop, Array.length_toList]
        have := Nat.mul_le_mul_right t.sz hn
        omega
      · rw [List.toList_toArray]
        have hl : (csy.flatten.take (m * t.sz)).length = m * t.sz := by rw [List.length_take]; omega
        rw [hl, List.take_append, hl, List.drop_take]
        rw [List.take_of_length_le (by rw [hl]; omega)]
  obtain ⟨w', hrun, hrow, ho1, ho2, ho3, ho4, ho5⟩ := hrun
  refine ⟨_, _, hv, ⟨rfl, rfl, [id], rfl, fun j _ hj => upd_ne _ _ (by simpa using hj)⟩, fun next Q hn => ?_⟩
  have hrun' : (execOp a.eval o).run P w = .ok (.value (goInt m)) w' := by simp [execOp, ho, resolve, invoke, builtin, hrun]
  unfold Oper.wp
  rw [hrun']
  refine hn g _ _ (Rel.put_ ?_ hd (d := .one (.int .i64 ((min xs.length ys.length : Nat) : Int))) (hmin ▸ rfl) (by simp [D.ids, D0.ids, D0.ls, L.ids]))
  refine Rel.step hr (· = id) rfl (fun j h => h.1) ?_ ?_ ?_ ?_ ?_ ho1 ho2 ho3 (Nat.le_of_eq ho4.symm) ?_ ?_ ?_
  · intro j hj; exact ⟨upd_ne _ _ hj, rfl⟩
  · rintro j rfl _; exact .inr ⟨by simp only [upd_same, hb1, shO, hcopyl], rfl⟩
  · rintro j q rfl hq
    refine .inr ⟨j, rfl, ?_⟩
    simpa only [owned, upd_same, hb1] using hq
  · rintro i j q rfl rfl _ _; rfl
  · intro q _ hne; exact ho5 q (hne id rfl)
  · intro hk hc j hj
    subst hj
    simp only [upd_same]
    refine ⟨_, hcopy.mono fun x c h => En.mono hk h, ?_⟩
    rw [hcopyl, hcat]; exact hrow
  · intro j hj q hq0
    subst hj
    have hq1 : q ∈ (Ob.row E t (copyL xs ys)).kids := by simpa only [upd_same] using hq0
    cases hq1
  · intro j hf
    have := hr.fresh j hf.1
    have hne : j ≠ id := fun e => by rw [e, hb1] at this; cases this
    simp only [upd_ne _ _ hne]; exact this

theorem wrK_sound {T : Nat → List Sp} (hT : ∀ f sp, sp ∈ T f → Sound P f sp) (hhb : ∀ id, hb id = .gone ∨ hb id = s.H id) (hr : Rel B nt fr s g a w) (hfr : ∀ j, id0 ≤ j → j < id0 + 8 → fr j) (hd : dstOk nt o.dst = true)
    (hv : wrK P T id0 hb o.op (o.op.operands.toList.map (evD s.e)) s k = some r) : WGoal P B nt fr id0 s a w o k r := by
  generalize ho : o.op = op at hv
  cases op with
  | store T0 x y =>
    simp only [Op.operands, List.map_cons, List.map_nil] at hv
    cases hx : evD s.e x with
    | tup q => rw [hx] at hv; simp only [wrK] at hv; cases hv
    | v d => cases d with
      | agg q => rw [hx] at hv; simp only [wrK] at hv; cases hv
      | one l =>
        rw [hx] at hv
        cases hy : evD s.e y with
        | tup q => rw [hy] at hv; simp only [wrK] at hv; cases hv
        | v d =>
          rw [hy] at hv
          simp only [wrK] at hv
          split at hv
          · cases hv
          · rename_i ti hti
            split at hv
            · rename_i hc
              obtain ⟨_, hsz, hso⟩ := hc
              split at hv
              · rename_i id off
                split at hv
                · rename_i T0' ls hb0
                  split at hv
                  · rename_i hfit
                    exact w_storeBox hhb hr hd ho hx hy hti hsz hso hb0 hfit hv
                  · cases hv
                · cases hv
              · rename_i id i off
                split at hv
                · rename_i E t xs hb0
                  split at hv
                  · rename_i x' hp
                    split at hv
                    · rename_i hfit
                      exact w_storeRow hhb hr hd ho hx hy hti hsz hso hb0 hp hfit hv
                    · cases hv
                  · cases hv
                · cases hv
              · cases hv
            · cases hv
  | call c =>
    obtain ⟨callee, args, tys⟩ := c
    cases callee with
    | invoke q m => simp only [wrK] at hv; cases hv
    | value f =>
      have hops : (Op.call { callee := .value f, args := args, argTypes := tys }).operands.toList = f :: args.toList := by
        simp [Op.operands, Call.operands]
      rw [hops, List.map_cons] at hv
      obtain ⟨ha1, ha2⟩ := args_R hr args.toList
      obtain ⟨hfv, hfi⟩ := ev_R hr f
      have harr : (args.map a.eval) = (args.toList.map a.eval).toArray := by
        apply Array.ext'
        simp only [Array.toList_map]
      cases hf : evD s.e f with
      | tup q => rw [hf] at hv; simp only [wrK] at hv; cases hv
      | v d => cases d with
        | agg q => rw [hf] at hv; simp only [wrK] at hv; cases hv
        | one l =>
          rw [hf] at hv hfv hfi
          cases l <;> first | (simp only [wrK] at hv; cases hv; done) | skip
          · rename_i gf
            simp only [wrK] at hv
            have vf : a.eval f = .func (.func gf) #[] #[] := hfv
            refine w_callK hhb hr hfr hd (gf := gf) (vs := args.toList.map a.eval) (fun hent => ?_) ha1 ha2 (hT gf) hv
            simp only [execOp, ho, resolve, vf, Deferred.ofValue, Sem.run_bind, Sem.run_pure, Result.andThen_ok, invoke, Array.empty_append, Array.append_empty, hent, harr]
          · rename_i id
            simp only [wrK] at hv
            split at hv
            · rename_i gf ls hcl
              have hc1 : s.H id = .clo gf ls := by rcases hhb id with e | e <;> rw [e] at hcl; cases hcl; exact hcl
              have hob := hr.objs id
              rw [hc1] at hob
              obtain ⟨caps, hg, hall⟩ := hob
              have vf : a.eval f = .func (.func gf) #[] caps := (hfv.2 .nil 0 (by rw [hc1]; rfl)).trans hg
              have hds : All2 (DR g s.H w (okB B g s.H w)) (args.toList.map (evD s.e) ++ ls.map D.one) (args.toList.map a.eval ++ caps.toList) := by
                refine ha1.app ?_
                have : ∀ {ls : List L} {cs : List Value}, All2 (LR g s.H w (okB B g s.H w)) ls cs → All2 (DR g s.H w (okB B g s.H w)) (ls.map D.one) cs := by
                  intro ls
                  induction ls with
                  | nil => intro cs h; rw [All2.nil_l h]; trivial
                  | cons l ls ih => intro cs h; obtain ⟨b, r, rfl, hb', hr'⟩ := h.cons_l; exact ⟨hb', ih hr'⟩
                exact this hall
              refine w_callK hhb hr hfr hd (gf := gf) (vs := args.toList.map a.eval ++ caps.toList) (fun hent => ?_) hds (fun d hd' j hj => ?_) (hT gf) hv
              · have : ((args.toList.map a.eval).toArray ++ caps) = (args.toList.map a.eval ++ caps.toList).toArray := by
                  apply Array.ext'; simp
                simp only [execOp, ho, resolve, vf, Deferred.ofValue, Sem.run_bind, Sem.run_pure, Result.andThen_ok, invoke, Array.empty_append, hent, harr, this]
              · rcases List.mem_append.1 hd' with h | h
                · exact ha2 d h j hj
                · obtain ⟨l, hl, rfl⟩ := List.mem_map.1 h
                  exact hr.kold id j (by rw [hc1]; exact List.mem_flatMap.2 ⟨l, hl, by simpa [D.ids, D0.ids, D0.ls] using hj⟩)
            · cases hv
    | builtin b =>
      cases b <;> first | (simp only [wrK] at hv; cases hv; done) | skip
      case copy =>
        simp only [Op.operands, Call.operands, Array.empty_append] at hv
        match hargs : args.toList with
        | [] => rw [hargs] at hv; simp only [List.map_nil, wrK] at hv; cases hv
        | [x] =>
          rw [hargs] at hv
          simp only [List.map_cons, List.map_nil] at hv
          generalize evD s.e x = dx at hv
          cases dx with
          | tup q => simp only [wrK] at hv; cases hv
          | v d => cases d with
            | agg q => simp only [wrK] at hv; cases hv
            | one l => cases l <;> (simp only [wrK] at hv; cases hv)
        | x :: y :: z :: rest =>
          rw [hargs] at hv
          simp only [List.map_cons] at hv
          generalize evD s.e x = dx at hv
          generalize evD s.e y = dy at hv
          cases dx with
          | tup q => simp only [wrK] at hv; cases hv
          | v d => cases d with
            | agg q => simp only [wrK] at hv; cases hv
            | one l =>
              cases dy with
              | tup q => cases l <;> (simp only [wrK] at hv; cases hv)
              | v d => cases d <;> cases l <;> (simp only [wrK] at hv; cases hv)
        | [x, y] =>
          rw [hargs] at hv
          have ha : args = #[x, y] := by apply Array.ext'; rw [hargs]
          subst ha
          simp only [List.map_cons, List.map_nil] at hv
          cases hx : evD s.e x with
          | tup q => rw [hx] at hv; simp only [wrK] at hv; cases hv
          | v d => cases d with
            | agg q => rw [hx] at hv; simp only [wrK] at hv; cases hv
            | one l =>
              rw [hx] at hv
              cases hy : evD s.e y with
              | tup q => rw [hy] at hv; cases l <;> (simp only [wrK] at hv; cases hv)
              | v d => cases d with
                | agg q => rw [hy] at hv; cases l <;> (simp only [wrK] at hv; cases hv)
                | one b =>
                  rw [hy] at hv
                  cases l <;> first | (simp only [wrK] at hv; cases hv; done) | skip
                  rename_i id
                  simp only [wrK] at hv
                  split at hv
                  · rename_i T1 T2 htys
                    have ht : tys = #[T1, T2] := by apply Array.ext'; rw [htys]
                    subst ht
                    split at hv
                    · rename_i e hT0
                      split at hv
                      · rename_i ti E t xs hti hb0
                        split at hv
                        · rename_i hc
                          split at hv
                          · rename_i ys hs
                            exact w_copy hhb hr hd ho hx hy hT0 hti hb0 hc.1 hc.2.1 hs hv
                          · cases hv
                        · cases hv
                      · cases hv
                    · cases hv
                  · cases hv
      simp only [Op.operands, Call.operands, Array.empty_append] at hv
      match hargs : args.toList with
      | [] => rw [hargs] at hv; simp only [List.map_nil, wrK] at hv; cases hv
      | [x] =>
        rw [hargs] at hv
        simp only [List.map_cons, List.map_nil] at hv
        cases hx : evD s.e x with
        | tup q => rw [hx] at hv; simp only [wrK] at hv; cases hv
        | v d => cases d <;> (rw [hx] at hv; simp only [wrK] at hv; cases hv)
      | x :: y :: z :: rest =>
        rw [hargs] at hv
        simp only [List.map_cons] at hv
        cases hx : evD s.e x with
        | tup q => rw [hx] at hv; simp only [wrK] at hv; cases hv
        | v d => cases d with
          | agg q => rw [hx] at hv; simp only [wrK] at hv; cases hv
          | one q =>
            rw [hx] at hv
            cases hy : evD s.e y with
            | tup q => rw [hy] at hv; simp only [wrK] at hv; cases hv
            | v d => cases d <;> (rw [hy] at hv; simp only [wrK] at hv; cases hv)
      | [x, y] =>
        rw [hargs] at hv
        have ha : args = #[x, y] := by apply Array.ext'; rw [hargs]
        subst ha
        simp only [List.map_cons, List.map_nil] at hv
        cases hx : evD s.e x with
        | tup q => rw [hx] at hv; simp only [wrK] at hv; cases hv
        | v d => cases d with
          | agg q => rw [hx] at hv; simp only [wrK] at hv; cases hv
          | one l =>
            rw [hx] at hv
            cases hy : evD s.e y with
            | tup q => rw [hy] at hv; simp only [wrK] at hv; cases hv
            | v d => cases d with
              | agg q => rw [hy] at hv; simp only [wrK] at hv; cases hv
              | one b =>
                rw [hy] at hv
                simp only [wrK] at hv
                split at hv
                · rename_i T1 T2 htys
                  have ht : tys = #[T1, T2] := by apply Array.ext'; rw [htys]
                  subst ht
                  split at hv
                  · rename_i hTT; subst hTT
                    split at hv
                    · rename_i e hT0
                      split at hv
                      · rename_i ti t hti ht
                        split at hv
                        · rename_i hc
                          obtain ⟨h2, h3, h4, h5⟩ := hc
                          split at hv
                          · cases hv
                          · rename_i ys hs
                            split at hv
                            · split at hv
                              · rename_i hlim
                                exact w_append (xs := []) (who := none) hhb hr hfr hd ho hx hy hT0 hti h2 h3 h4 h5 hs (.inl ⟨rfl, rfl, rfl, rfl, rfl⟩) (by simpa using hlim) hv
                              · cases hv
                            · rename_i id
                              split at hv
                              · rename_i E t0 xs hb0
                                split at hv
                                · rename_i ht0; subst ht0
                                  split at hv
                                  · rename_i hc
                                    obtain ⟨rfl, _⟩ := hc
                                    split at hv
                                    · rename_i hlim
                                      exact w_append (xs := xs) (who := some id) hhb hr hfr hd ho hx hy hT0 hti h2 h3 h4 h5 hs (.inr ⟨id, xs, rfl, .inl ⟨rfl, rfl⟩, hb0, rfl, rfl⟩) hlim hv
                                    · cases hv
                                  · cases hv
                                · cases hv
                              · cases hv
                            · rename_i id n
                              split at hv
                              · rename_i E t0 xs hb0
                                split at hv
                                · rename_i ht0; subst ht0
                                  split at hv
                                  · rename_i hc
                                    obtain ⟨rfl, _, hn⟩ := hc
                                    split at hv
                                    · rename_i hlim
                                      have hl : (xs.take n).length = n := by rw [List.length_take]; omega
                                      exact w_append (xs := xs.take n) (who := some id) hhb hr hfr hd ho hx hy hT0 hti h2 h3 h4 h5 hs (.inr ⟨id, xs, rfl, .inr ⟨n, rfl, rfl⟩, hb0, rfl, rfl⟩) (by rw [hl]; exact hlim) hv
                                    · cases hv
                                  · cases hv
                                · cases hv
                              · cases hv
                            · cases hv
                        · cases hv
                      · cases hv
                    · cases hv
                  · cases hv
                · cases hv
  | _ => simp only [wrK] at hv; cases hv

end
end Go.Proofs.Fr

/- A form of each operation without what comes behind it. -/
namespace Go.Proofs.Fr
open Go Go.RowKit
variable {R : Type}

theorem pickD_nat (x : Bool) (a b : D) (k : D → Option R) : pickD x a b k = (pickD x a b some).bind k := by
  unfold pickD
  split <;> (try split) <;> rfl

theorem intBin_nat (op : BinOp) (kk : IntKind) (a b : Int) (k : L → Option R) : intBin op kk a b k = (intBin op kk a b some).bind k := by
  unfold intBin
  split <;> (try split) <;> rfl

theorem strBin_nat (op : BinOp) (a b : ByteArray) (k : L → Option R) : strBin op a b k = (strBin op a b some).bind k := by
  unfold strBin
  split <;> (try split) <;> rfl

theorem binK_nat (P : Program) (op : BinOp) (xT : TypeId) (x y : D) (k : L → Option R) : binK P op xT x y k = (binK P op xT x y some).bind k := by
  unfold binK
  split
  · split
    · split <;> rfl
    · split <;> rfl
    · split
      · exact intBin_nat _ _ _ _ _
      · rfl
  · exact strBin_nat _ _ _ _
  · split <;> rfl
  · split <;> (try split) <;> rfl
  · split <;> rfl
  · split <;> rfl
  · repeat' (first | rfl | split)
  · rfl

theorem unK_nat (op : UnOp) (x : D) (k : L → Option R) : unK op x k = (unK op x some).bind k := by
  unfold unK
  split <;> rfl

theorem convK_nat (P : Program) (src dst : TypeId) (vw : Nat → Vw) (x : D) (k : L → Option R) : convK P src dst vw x k = (convK P src dst vw x some).bind k := by
  unfold convK
  split
  · rfl
  · rfl
  · split
    · split <;> rfl
    · rfl
  · split
    · split <;> rfl
    · rfl
  · rfl

abbrev Eo := D × List Ob × List Nat

theorem bind_comp {α β γ : Type} (x : Option α) (f : α → Option β) (k : β → Option γ) : (x.bind f).bind k = x.bind fun y => (f y).bind k := by cases x <;> rfl

theorem valK_nat (P : Program) (T : Nat → List Sp) (id0 : Nat) (vw : Nat → Vw) (op : Op) (ds : List D) (k : D → List Ob → List Nat → Option R) :
    valK P T id0 vw op ds k = (valK P T id0 vw op ds fun d o i => some ((d, o, i) : Eo)).bind fun r => k r.1 r.2.1 r.2.2 := by
  unfold valK
  split
  case h_3 => rw [pickD_nat (k := fun d => k d [] []), pickD_nat (k := fun d => some ((d, [], []) : Eo)), bind_comp]; rfl
  case h_10 => rw [binK_nat (k := fun l => k (.one l) [] []), binK_nat (k := fun l => some ((.one l, [], []) : Eo)), bind_comp]; rfl
  case h_11 => rw [unK_nat (k := fun l => k (.one l) [] []), unK_nat (k := fun l => some ((.one l, [], []) : Eo)), bind_comp]; rfl
  case h_12 => rw [convK_nat (k := fun l => k (.one l) [] []), convK_nat (k := fun l => some ((.one l, [], []) : Eo)), bind_comp]; rfl
  all_goals (try simp only [cond_eq_ite])
  all_goals (repeat' (first | rfl | split | (dsimp only; split)))
  all_goals (first | rfl | (rw [bind_comp]; rfl) | (rw [splitN_eq _ (by omega), splitN_eq _ (by omega)]; repeat' (first | rfl | split | (dsimp only; split))))

theorem splitK_eq : ∀ (ks : List K) (y : dens ks), ∃ (ks' : List K) (z : dens ks'), ∀ {R : Type} (k : (ks : List K) → dens ks → Option R), splitK ks y k = k ks' z
  | [], y => ⟨[], (), fun _ => rfl⟩
  | q :: r, y => by
    obtain ⟨ks', z, h⟩ := splitK_eq r y.2
    cases q with
    | mb T c =>
      cases hy : y.1 with
      | none => exact ⟨.np :: ks', ((), z), fun k => by simp only [splitK, hy]; exact h _⟩
      | some v => exact ⟨.bx T c :: ks', (v, z), fun k => by simp only [splitK, hy]; exact h _⟩
    | _ => exact ⟨_ :: ks', (y.1, z), fun k => by simp only [splitK]; exact h _⟩

theorem callK_nat (id0 : Nat) (hb : Nat → Ob) (ds : List D) (s : S) (k : S → D → Option R) : ∀ sps, callK id0 hb ds s k sps = (callK id0 hb ds s (fun s d => some (s, d)) sps).bind fun r => k r.1 r.2
  | [] => rfl
  | sp :: r => by
    simp only [callK]
    split
    · exact callK_nat id0 hb ds s k r
    · rename_i x fro lent _
      cases lentOk fro lent
      · rfl
      · simp only [cond_true]
        cases sp.sem x with
        | none => rfl
        | some y =>
          simp only [Option.bind_some]
          obtain ⟨ks', z, he⟩ := splitK_eq (sp.outs ++ backs sp.ins) y
          rw [he, he]
          cases Nat.ble (nobP (retTg sp.outs.length (lentA hb sp.ins ds)) ks') 8 <;> rfl

theorem callK_e (id0 : Nat) (hb : Nat → Ob) (ds : List D) (s : S) (e : Nat → D) : ∀ sps, (callK id0 hb ds { s with e := e } (fun s d => some (s, d)) sps) = (callK id0 hb ds s (fun s d => some (s, d)) sps).map fun r => ({ r.1 with e := e }, r.2)
  | [] => rfl
  | sp :: r => by
    simp only [callK]
    split
    · exact callK_e id0 hb ds s e r
    · rename_i x fro lent _
      cases lentOk fro lent
      · rfl
      · simp only [cond_true]
        cases sp.sem x with
        | none => rfl
        | some y =>
          simp only [Option.bind_some]
          obtain ⟨ks', z, he⟩ := splitK_eq (sp.outs ++ backs sp.ins) y
          rw [he, he]
          cases Nat.ble (nobP (retTg sp.outs.length (lentA hb sp.ins ds)) ks') 8 <;> rfl

theorem callK_nx (id0 : Nat) (hb : Nat → Ob) (ds : List D) (s : S) (n : Nat) : ∀ sps, (callK id0 hb ds { s with nx := n } (fun s d => some (s, d)) sps) = (callK id0 hb ds s (fun s d => some (s, d)) sps).map fun r => ({ r.1 with nx := n }, r.2)
  | [] => rfl
  | sp :: r => by
    simp only [callK]
    split
    · exact callK_nx id0 hb ds s n r
    · rename_i x fro lent _
      cases lentOk fro lent
      · rfl
      · simp only [cond_true]
        cases sp.sem x with
        | none => rfl
        | some y =>
          simp only [Option.bind_some]
          obtain ⟨ks', z, he⟩ := splitK_eq (sp.outs ++ backs sp.ins) y
          rw [he, he]
          cases Nat.ble (nobP (retTg sp.outs.length (lentA hb sp.ins ds)) ks') 8 <;> rfl

theorem callK_same (id0 : Nat) (hb : Nat → Ob) (hhb : ∀ id, hb id = .gone ∨ True) (ds : List D) (s : S) {q : S × D} : ∀ sps, (callK id0 hb ds s (fun s d => some (s, d)) sps) = some q → q.1.e = s.e ∧ q.1.nx = s.nx
  | [], h => by simp only [callK] at h; cases h
  | sp :: r, h => by
    simp only [callK] at h
    split at h
    · exact callK_same id0 hb hhb ds s r h
    · rename_i x fro lent _
      cases hc : lentOk fro lent
      · rw [hc] at h; cases h
      · rw [hc] at h
        simp only [cond_true] at h
        cases hy : sp.sem x with
        | none => rw [hy] at h; cases h
        | some y =>
          rw [hy] at h
          simp only [Option.bind_some] at h
          obtain ⟨ks', z, he⟩ := splitK_eq (sp.outs ++ backs sp.ins) y
          rw [he] at h
          cases h8 : Nat.ble (nobP (retTg sp.outs.length (lentA hb sp.ins ds)) ks') 8
          · rw [h8] at h; cases h
          · rw [h8] at h; cases h; exact ⟨rfl, rfl⟩

theorem wrK_nat (P : Program) (T : Nat → List Sp) (id0 : Nat) (hb : Nat → Ob) (op : Op) (ds : List D) (s : S) (k : S → D → Option R) :
    wrK P T id0 hb op ds s k = (wrK P T id0 hb op ds s fun s d => some (s, d)).bind fun r => k r.1 r.2 := by
  unfold wrK
  split
  case h_4 =>
    split
    · exact callK_nat _ _ _ _ _ _
    · split
      · exact callK_nat _ _ _ _ _ _
      · rfl
    · rfl
  all_goals repeat' (first | rfl | split | (dsimp only; split))

/-- What a write does with a state that is put together otherwise. -/
theorem wrK_e (P : Program) (T : Nat → List Sp) (id0 : Nat) (hb : Nat → Ob) (op : Op) (ds : List D) (s : S) (e : Nat → D) :
    (wrK P T id0 hb op ds { s with e := e } fun s d => some (s, d)) = (wrK P T id0 hb op ds s fun s d => some (s, d)).map fun r => ({ r.1 with e := e }, r.2) := by
  unfold wrK
  split
  case h_4 =>
    split
    · exact callK_e _ _ _ _ _ _
    · split
      · exact callK_e _ _ _ _ _ _
      · rfl
    · rfl
  all_goals repeat' (first | rfl | split | (dsimp only; split))

theorem wrK_nx (P : Program) (T : Nat → List Sp) (id0 : Nat) (hb : Nat → Ob) (op : Op) (ds : List D) (s : S) (n : Nat) :
    (wrK P T id0 hb op ds { s with nx := n } fun s d => some (s, d)) = (wrK P T id0 hb op ds s fun s d => some (s, d)).map fun r => ({ r.1 with nx := n }, r.2) := by
  unfold wrK
  split
  case h_4 =>
    split
    · exact callK_nx _ _ _ _ _ _
    · split
      · exact callK_nx _ _ _ _ _ _
      · rfl
    · rfl
  all_goals repeat' (first | rfl | split | (dsimp only; split))

theorem wrK_same (P : Program) (T : Nat → List Sp) (id0 : Nat) (hb : Nat → Ob) (op : Op) (ds : List D) (s : S) {r : S × D} (h : (wrK P T id0 hb op ds s fun s d => some (s, d)) = some r) : r.1.e = s.e ∧ r.1.nx = s.nx := by
  unfold wrK at h
  split at h
  case h_4 =>
    split at h
    · exact callK_same id0 hb (fun _ => .inr trivial) _ _ _ h
    · split at h
      · exact callK_same id0 hb (fun _ => .inr trivial) _ _ _ h
      · cases h
    · cases h
  all_goals repeat' (first | (cases h; first | exact ⟨rfl, rfl⟩ | done) | split at h | (dsimp only at h; split at h))


theorem pj_drop {vw : Nat → Vw} : ∀ {t : Ty} {ls r : List L} {x : t.den} {ids : List Nat}, pj vw t ls = some (x, r, ids) → r = ls.drop t.sz
  | .int k, ls, r, x, ids, h => by
    simp only [pj] at h
    split at h
    · split at h
      · cases h; rfl
      · cases h
    · cases h
  | .bool, ls, r, x, ids, h => by
    simp only [pj] at h
    split at h
    · cases h; rfl
    · cases h
  | .str, ls, r, x, ids, h => by
    simp only [pj] at h
    split at h
    · cases h; rfl
    · cases h
  | .sl E t, ls, r, x, ids, h => by
    simp only [pj] at h
    split at h
    · split at h
      · split at h
        · cases h; rfl
        · cases h
      · cases h
    · cases h; rfl
    · split at h
      · split at h
        · split at h
          · cases h; rfl
          · cases h
        · cases h
      · cases h
    · split at h
      · split at h
        · split at h
          · cases h; rfl
          · cases h
        · cases h
      · cases h
    · cases h
  | .nil, ls, r, x, ids, h => by
    simp only [pj] at h
    cases h; rfl
  | .cons a b, ls, r, x, ids, h => by
    simp only [pj] at h
    split at h
    · rename_i x1 r1 i1 h1
      split at h
      · rename_i y r2 i2 h2
        cases h
        rw [pj_drop h2, pj_drop h1, List.drop_drop]; rfl
      · cases h
    · cases h

theorem pkC_drop {H : Nat → Ob} : ∀ {k : K} {ls r : List L} {x : k.den} {fro lent : List Nat}, pkC H k ls = some (x, r, fro, lent) → r = ls.drop k.sz ∧ ∀ id ∈ lentC H k ls, id ∈ lent := by
  intro k
  induction k with
  | v t =>
    intro ls r x fro lent h
    simp only [pkC] at h
    split at h
    · rename_i hp; cases h; exact ⟨pj_drop hp, by simp [lentC]⟩
    · cases h
  | own E t =>
    intro ls r x fro lent h
    simp only [pkC] at h
    split at h
    · cases h; exact ⟨rfl, by simp [lentC]⟩
    · split at h
      · split at h
        · split at h
          · cases h; exact ⟨rfl, by simp [lentC]⟩
          · cases h
        · cases h
      · cases h
    · split at h
      · split at h
        · split at h
          · cases h; exact ⟨rfl, by simp [lentC]⟩
          · cases h
        · cases h
      · cases h
    · cases h
  | io E t =>
    intro ls r x fro lent h
    simp only [pkC] at h
    split at h
    · split at h
      · split at h
        · split at h
          · cases h; exact ⟨rfl, by simp [lentC]⟩
          · cases h
        · cases h
      · cases h
    · cases h
  | bx T c ih =>
    intro ls r x fro lent h
    simp only [pkC] at h
    split at h
    · split at h
      · split at h
        · split at h
          · cases h; exact ⟨rfl, by simp [lentC]⟩
          · cases h
        · cases h
      · cases h
    · cases h
  | fn f c ih =>
    intro ls r x fro lent h
    simp only [pkC] at h
    split at h
    · split at h
      · split at h
        · cases h; exact ⟨rfl, by simp [lentC]⟩
        · cases h
      · cases h
    · rename_i id q'
      split at h
      · rename_i f' ls' hH
        split at h
        · split at h
          · rename_i hp
            cases h
            refine ⟨rfl, fun j hj => (ih hp).2 j ?_⟩
            simpa only [lentC, hH] using hj
          · cases h
        · cases h
      · cases h
    · cases h
  | np =>
    intro ls r x fro lent h
    simp only [pkC] at h
    split at h
    · cases h; exact ⟨rfl, by simp [lentC]⟩
    · cases h
  | mb T c ih =>
    intro ls r x fro lent h
    simp only [pkC] at h
    split at h
    · cases h; exact ⟨rfl, by simp [lentC]⟩
    · split at h
      · split at h
        · split at h
          · cases h; exact ⟨rfl, by simp [lentC]⟩
          · cases h
        · cases h
      · cases h
    · cases h
  | nil =>
    intro ls r x fro lent h
    simp only [pkC] at h
    cases h; exact ⟨rfl, by simp [lentC]⟩
  | cons a b iha ihb =>
    intro ls r x fro lent h
    simp only [pkC] at h
    split at h
    · rename_i x1 r1 f1 l1 h1
      split at h
      · rename_i y r2 f2 l2 h2
        cases h
        obtain ⟨e1, p1⟩ := iha h1
        obtain ⟨e2, p2⟩ := ihb h2
        refine ⟨by rw [e2, e1, List.drop_drop]; rfl, fun id hid => ?_⟩
        simp only [lentC] at hid
        rcases List.mem_append.1 hid with h | h
        · exact List.mem_append.2 (.inl (p1 id h))
        · exact List.mem_append.2 (.inr (p2 id (by rw [e1]; exact h)))
      · cases h
    · cases h

theorem pkA_lent {H : Nat → Ob} : ∀ {ks : List K} {ds : List D} {x : dens ks} {fro lent : List Nat}, pkA H ks ds = some (x, fro, lent) → ∀ id ∈ lentA H ks ds, id ∈ lent
  | [], ds, x, fro, lent, h, id, hid => by simp [lentA] at hid
  | k :: r, ds, x, fro, lent, h, id, hid => by
    simp only [pkA] at h
    split at h
    · split at h
      · split at h
        · rename_i h1
          split at h
          · rename_i h2
            cases h
            simp only [lentA] at hid
            rcases List.mem_append.1 hid with hid | hid
            · exact List.mem_append.2 (.inl ((pkC_drop h1).2 id hid))
            · exact List.mem_append.2 (.inr (pkA_lent h2 id hid))
          · cases h
        · cases h
      · cases h
    · cases h

theorem callK_ext (id0 : Nat) (hb : Nat → Ob) (ds : List D) (s : S) {q : S × D} : ∀ sps, (callK id0 hb ds s (fun s d => some (s, d)) sps) = some q → ∃ new, q.1.dt = new ++ s.dt ∧ ∀ id, id < id0 → id ∉ new → q.1.H id = s.H id
  | [], h => by simp only [callK] at h; cases h
  | sp :: r, h => by
    simp only [callK] at h
    split at h
    · exact callK_ext id0 hb ds s r h
    · rename_i x fro lent hx
      cases hc : lentOk fro lent
      · rw [hc] at h; cases h
      · rw [hc] at h
        simp only [cond_true] at h
        cases hy : sp.sem x with
        | none => rw [hy] at h; cases h
        | some y =>
          rw [hy] at h
          simp only [Option.bind_some] at h
          obtain ⟨ks', z, he⟩ := splitK_eq (sp.outs ++ backs sp.ins) y
          rw [he] at h
          cases h8 : Nat.ble (nobP (retTg sp.outs.length (lentA hb sp.ins ds)) ks') 8
          · rw [h8] at h; cases h
          rw [h8] at h; cases h
          refine ⟨lent ++ fro, rfl, fun id hid hn => ?_⟩
          simp only [List.mem_append, not_or] at hn
          show (fillS _ _ _ _ _ _).2 id = s.H id
          rw [fill_keep _ _ _ _ (.inl hid) (by rw [objT_retTg]; exact fun h => hn.1 (pkA_lent hx id h)), (goneAll_at lent _ id).2 hn.1, (frz_at fro s.H id).2 hn.2]

end Go.Proofs.Fr

/- Operations in a row; two of them in either order. -/
namespace Go.Proofs.Fr
open Go Go.RowKit
variable {R : Type} {P : Program} {T : Nat → List Sp} {nt : Nat} {ops : Array Oper} {bef : Array Nat} {nx0 : Nat} {dr : Bool} {fz : Nat → Bool}

theorem opK_nat (id0 : Nat) (acc : Acc) (fz : Nat → Bool) (dr : Bool) (o : Oper) (s : S) (k : S → Option R) : opK P T id0 acc fz dr o s k = (opK P T id0 acc fz dr o s some).bind k := by
  unfold opK
  cases isWr T o.op
  · simp only [cond_false]
    rw [valK_nat (k := fun d obs ids => bif dr then (bif ids.all (fun i => fz i && (acc i && !acc.hid)) && Nat.ble obs.length 8 then k { s.commit o.dst id0 d obs ids with dt := s.dt } else none) else k (s.commit o.dst id0 d obs ids)), valK_nat (k := fun d obs ids => bif dr then (bif ids.all (fun i => fz i && (acc i && !acc.hid)) && Nat.ble obs.length 8 then some { s.commit o.dst id0 d obs ids with dt := s.dt } else none) else some (s.commit o.dst id0 d obs ids)), bind_comp]
    congr 1
    funext r
    cases dr
    · rfl
    · simp only [cond_true]
      cases (r.2.2.all (fun i => fz i && (acc i && !acc.hid)) && Nat.ble r.2.1.length 8) <;> rfl
  · simp only [cond_true]
    rw [wrK_nat (k := fun s' d => k (s'.put o.dst d)), wrK_nat (k := fun s' d => some (s'.put o.dst d)), bind_comp]
    rfl

/-- Whether an operation is to be done. -/
def gq (ops : Array Oper) (o : Oper) (e : Nat → D) : Option Bool :=
  match o.guard with
  | none => some true
  | some (j, want) => match (ops[j]?).bind (·.dst) with
    | none => none
    | some t => match e t with
      | .v (.one (.bool b)) => some (b == want)
      | .v (.one .skip) => some false
      | _ => none

theorem upd_id {α : Type} (f : Nat → α) (i : Nat) {x : α} (h : f i = x) : upd f i x = f := by
  funext j
  by_cases e : j = i
  · subst e; rw [upd_same, h]
  · rw [upd_ne _ _ e]

theorem put_id (s : S) (t : Nat) {d : D} (h : s.e t = d) : s.put (some t) d = s := by
  show ({ s with e := upd s.e t d } : S) = s
  rw [upd_id _ _ h]

theorem gdK_eq (o : Oper) (s : S) (yes no : S → Option R) : gdK ops o s yes no = match gq ops o s.e with
    | some true => yes s
    | some false => no s
    | none => none := by
  unfold gdK gq
  cases o.guard with
  | none => rfl
  | some jw =>
    obtain ⟨j, want⟩ := jw
    simp only
    cases (ops[j]?).bind (·.dst) with
    | none => rfl
    | some t =>
      simp only
      cases h : s.e t with
      | tup q => rfl
      | v d => cases d with
        | agg q => rfl
        | one l =>
          cases l <;> try rfl
          rename_i b
          cases b <;> cases want <;> simp [put_id s t h]

def stepD (P : Program) (T : Nat → List Sp) (nt : Nat) (ops : Array Oper) (bef : Array Nat) (nx0 : Nat) (dr : Bool) (fz : Nat → Bool) (i : Nat) (s : S) : Option S :=
  match ops[i]? with
  | none => none
  | some o => bif dstOk nt o.dst then (match gq ops o s.e with
    | some true => opK P T (nx0 + 8 * i) (accOf T ops bef nx0 dr i) fz dr o s some
    | some false => some (s.put o.dst (.one .skip))
    | none => none) else none

def runD (P : Program) (T : Nat → List Sp) (nt : Nat) (ops : Array Oper) (bef : Array Nat) (nx0 : Nat) (dr : Bool) (fz : Nat → Bool) : List Nat → S → Option S
  | [], s => some s
  | i :: r, s => (stepD P T nt ops bef nx0 dr fz i s).bind (runD P T nt ops bef nx0 dr fz r)

theorem regK_eq : ∀ (L : List Nat) (s : S) (k : S → Option R), regK P T nt ops bef nx0 dr fz L s k = (runD P T nt ops bef nx0 dr fz L s).bind fun s => k { s with nx := nx0 + 8 * ops.size }
  | [], s, k => rfl
  | i :: r, s, k => by
    simp only [regK, runD, stepD]
    cases ops[i]? with
    | none => rfl
    | some o =>
      simp only
      cases dstOk nt o.dst with
      | false => rfl
      | true =>
        simp only [cond_true]
        rw [gdK_eq]
        cases gq ops o s.e with
        | none => rfl
        | some b =>
          cases b
          · simp only [Option.bind_some]; exact regK_eq r _ k
          · simp only
            rw [opK_nat, bind_comp]
            congr 1
            funext s'
            exact regK_eq r s' k

/-- What an operation does to a state's parts. -/
def eff (P : Program) (T : Nat → List Sp) (ops : Array Oper) (id0 : Nat) (acc : Acc) (fz : Nat → Bool) (o : Oper) (e : Nat → D) (H : Nat → Ob) (dt : List Nat) : Option (D × (Nat → Ob) × List Nat) :=
  match gq ops o e with
  | none => none
  | some false => some (.one .skip, H, dt)
  | some true =>
    bif isWr T o.op then (wrK P T id0 (hbl acc H) o.op (o.op.operands.toList.map (evD e)) { e := fun _ => .one .undef, H := H, nx := 0, dt := dt } fun s d => some (s, d)).map fun r => (r.2, r.1.H, r.1.dt)
    else (valK P T id0 (vwl acc H) o.op (o.op.operands.toList.map (evD e)) fun d o i => some ((d, o, i) : Eo)).bind fun r =>
      bif r.2.2.all (fun i => fz i && (acc i && !acc.hid)) && Nat.ble r.2.1.length 8 then some (r.1, setObs (frz H r.2.2) id0 r.2.1, dt) else none

def putE (e : Nat → D) (dst : Option Nat) (d : D) : Nat → D := match dst with
  | some t => upd e t d
  | none => e

theorem put_putE (s : S) (dst : Option Nat) (d : D) : s.put dst d = { s with e := putE s.e dst d } := by cases dst <;> rfl

theorem stepD_eq {o : Oper} {i : Nat} (ho : ops[i]? = some o) (hd : dstOk nt o.dst = true) (s : S) :
    stepD P T nt ops bef nx0 true fz i s = (eff P T ops (nx0 + 8 * i) (accOf T ops bef nx0 true i) fz o s.e s.H s.dt).map fun r => { e := putE s.e o.dst r.1, H := r.2.1, nx := s.nx, dt := r.2.2 } := by
  unfold stepD eff
  simp only [ho, hd, cond_true]
  cases gq ops o s.e with
  | none => rfl
  | some b =>
    cases b
    · simp only [Option.map_some, put_putE]
    · simp only
      unfold opK
      cases isWr T o.op
      · simp only [cond_false, cond_true]
        rw [valK_nat (k := fun d obs ids => bif ids.all (fun j => fz j && (accOf T ops bef nx0 true i j && !(accOf T ops bef nx0 true i).hid)) && Nat.ble obs.length 8 then some ({ s.commit o.dst (nx0 + 8 * i) d obs ids with dt := s.dt } : S) else none)]
        cases valK P T (nx0 + 8 * i) (vwl (accOf T ops bef nx0 true i) s.H) o.op (o.op.operands.toList.map (evD s.e)) fun d o i => some ((d, o, i) : Eo) with
        | none => rfl
        | some r =>
          simp only [Option.bind_some]
          cases (r.2.2.all (fun j => fz j && (accOf T ops bef nx0 true i j && !(accOf T ops bef nx0 true i).hid)) && Nat.ble r.2.1.length 8)
          · rfl
          · simp only [cond_true, Option.map_some]
            congr 1
            unfold S.commit
            rw [put_putE]
      · simp only [cond_true]
        rw [wrK_nat (k := fun s' d => some (s'.put o.dst d))]
        have h := wrK_e P T (nx0 + 8 * i) (hbl (accOf T ops bef nx0 true i) s.H) o.op (o.op.operands.toList.map (evD s.e)) { s with e := fun _ => .one .undef } s.e
        have h2 := wrK_nx P T (nx0 + 8 * i) (hbl (accOf T ops bef nx0 true i) s.H) o.op (o.op.operands.toList.map (evD s.e)) { e := fun _ => .one .undef, H := s.H, nx := 0, dt := s.dt } s.nx
        have h3 : (wrK P T (nx0 + 8 * i) (hbl (accOf T ops bef nx0 true i) s.H) o.op (o.op.operands.toList.map (evD s.e)) s fun s d => some (s, d)) =
            (wrK P T (nx0 + 8 * i) (hbl (accOf T ops bef nx0 true i) s.H) o.op (o.op.operands.toList.map (evD s.e)) { e := fun _ => .one .undef, H := s.H, nx := 0, dt := s.dt } fun s d => some (s, d)).map fun r => ({ r.1 with e := s.e, nx := s.nx }, r.2) := by
          refine h.trans ?_
          rw [show ({ s with e := fun _ => .one .undef } : S) = { e := fun _ => .one .undef, H := s.H, nx := s.nx, dt := s.dt } from rfl]
          rw [show (wrK P T (nx0 + 8 * i) (hbl (accOf T ops bef nx0 true i) s.H) o.op (o.op.operands.toList.map (evD s.e)) { e := fun _ => .one .undef, H := s.H, nx := s.nx, dt := s.dt } fun s d => some (s, d)) = _ from h2]
          rw [Option.map_map]; rfl
        rw [h3]
        cases wrK P T (nx0 + 8 * i) (hbl (accOf T ops bef nx0 true i) s.H) o.op (o.op.operands.toList.map (evD s.e)) { e := fun _ => .one .undef, H := s.H, nx := 0, dt := s.dt } fun s d => some (s, d) with
        | none => rfl
        | some r => simp only [Option.map_some, Option.bind_some, put_putE]

theorem evD_same {e e' : Nat → D} {x : Operand} (h : ∀ t, x = .tmp t → e t = e' t) : evD e x = evD e' x := by
  cases x <;> first | rfl | exact h _ rfl

/-- An operation looks at its own slots alone. -/
theorem eff_e {id0 : Nat} {acc : Acc} {fz : Nat → Bool} {o : Oper} {e e' : Nat → D} (h : ∀ t ∈ opdTmps ops o, e t = e' t) (H : Nat → Ob) (dt : List Nat) : eff P T ops id0 acc fz o e H dt = eff P T ops id0 acc fz o e' H dt := by
  have hg : gq ops o e = gq ops o e' := by
    unfold gq
    cases hgd : o.guard with
    | none => rfl
    | some jw =>
      obtain ⟨j, want⟩ := jw
      simp only
      cases ht : (ops[j]?).bind (·.dst) with
      | none => rfl
      | some t =>
        simp only
        rw [h t (by simp only [opdTmps, hgd, ht, List.mem_append]; right; simp)]
  have hds : o.op.operands.toList.map (evD e) = o.op.operands.toList.map (evD e') := by
    refine List.map_congr_left fun x hx => evD_same fun t ht => h t ?_
    subst ht
    simp only [opdTmps, List.mem_append]
    exact .inl (List.mem_filterMap.2 ⟨_, hx, rfl⟩)
  unfold eff
  rw [hg, hds]

theorem tmp_val {id0 : Nat} {vw : Nat → Vw} {op : Op} {ds : List D} (ht : tmpOnly op = true) :
    (valK P T id0 vw op ds fun d o i => some ((d, o, i) : Eo)) = ((valK P T 0 (fun _ => .no) op ds fun d o i => some ((d, o, i) : Eo)).map (·.1)).map fun d => (d, [], []) := by
  cases op <;> first | (cases ht; done) | skip
  case move x => match ds with
    | [] => rfl
    | [d] => rfl
    | _ :: _ :: _ => rfl
  case assign x => match ds with
    | [] => rfl
    | [d] => rfl
    | _ :: _ :: _ => rfl
  case pick c x y => match ds with
    | [] => rfl
    | [d] => cases d with
      | tup => rfl
      | v d => cases d with
        | agg => rfl
        | one l => cases l <;> rfl
    | [d, _] => cases d with
      | tup => rfl
      | v d => cases d with
        | agg => rfl
        | one l => cases l <;> rfl
    | d :: _ :: _ :: _ :: _ => cases d with
      | tup => rfl
      | v d => cases d with
        | agg => rfl
        | one l => cases l <;> rfl
    | [d, a, b] => cases d with
      | tup => rfl
      | v d => cases d with
        | agg => rfl
        | one l =>
          cases l <;> try rfl
          rename_i x
          show pickD x a b (fun d => some ((d, [], []) : Eo)) = ((pickD x a b fun d => some ((d, [], []) : Eo)).map (·.1)).map fun d => (d, [], [])
          rw [pickD_nat (k := fun d => some ((d, [], []) : Eo))]
          cases pickD x a b some <;> rfl
  case build T0 parts =>
    simp only [valK]
    split
    · split <;> rfl
    · rfl
  case binOp op xT x y yT => match ds with
    | [] => rfl
    | [_] => rfl
    | _ :: _ :: _ :: _ => rfl
    | [a, b] =>
      show binK P op xT a b (fun l => some ((.one l, [], []) : Eo)) = ((binK P op xT a b fun l => some ((.one l, [], []) : Eo)).map (·.1)).map fun d => (d, [], [])
      rw [binK_nat (k := fun l => some ((.one l, [], []) : Eo))]
      cases binK P op xT a b some <;> rfl
  case unOp op xT x => match ds with
    | [] => rfl
    | _ :: _ :: _ => rfl
    | [a] =>
      show unK op a (fun l => some ((.one l, [], []) : Eo)) = ((unK op a fun l => some ((.one l, [], []) : Eo)).map (·.1)).map fun d => (d, [], [])
      rw [unK_nat (k := fun l => some ((.one l, [], []) : Eo))]
      cases unK op a some <;> rfl
  case field T0 x f => match ds with
    | [] => rfl
    | d :: _ :: _ => cases d with
      | tup => rfl
      | v d => cases d <;> rfl
    | [d] => cases d with
      | tup => rfl
      | v d => cases d with
        | one => rfl
        | agg ls =>
          simp only [valK]
          repeat' (first | rfl | split)
  case extract x i => match ds with
    | [] => rfl
    | d :: _ :: _ => cases d <;> rfl
    | [d] => cases d with
      | v => rfl
      | tup es =>
        simp only [valK]
        split <;> rfl

/-- An operation on slots alone. -/
theorem eff_tmp {id0 : Nat} {acc : Acc} {fz : Nat → Bool} {o : Oper} (ht : tmpOnly o.op = true) (e : Nat → D) : ∃ d? : Option D, ∀ H dt, eff P T ops id0 acc fz o e H dt = d?.map fun d => (d, H, dt) := by
  have hw : isWr T o.op = false := by cases hop : o.op <;> rw [hop] at ht <;> first | rfl | (cases ht; done)
  cases hg : gq ops o e with
  | none => exact ⟨none, fun H dt => by unfold eff; rw [hg]; rfl⟩
  | some b =>
    cases b
    · exact ⟨some (.one .skip), fun H dt => by unfold eff; rw [hg]; rfl⟩
    · have key : ∃ d? : Option D, ∀ id0 vw, (valK P T id0 vw o.op (o.op.operands.toList.map (evD e)) fun d o i => some ((d, o, i) : Eo)) = d?.map fun d => (d, [], []) := by
        generalize o.op.operands.toList.map (evD e) = ds
        generalize hop : o.op = op at ht
        exact ⟨_, fun id0 vw => tmp_val ht⟩
      obtain ⟨d?, hk⟩ := key
      refine ⟨d?, fun H dt => ?_⟩
      unfold eff
      rw [hg]
      simp only [hw, cond_false, hk]
      cases d? <;> rfl

theorem look_val {id0 : Nat} {vw : Nat → Vw} {op : Op} {ds : List D} (ht : lookOnly op = true) :
    (valK P T id0 vw op ds fun d o i => some ((d, o, i) : Eo)) = ((valK P T 0 vw op ds fun d o i => some ((d, o, i) : Eo)).map (·.1)).map fun d => (d, [], []) := by
  have none_eq : (none : Option Eo) = ((none : Option Eo).map (·.1)).map fun d => (d, [], []) := rfl
  have some_eq : ∀ d : D, some ((d, [], []) : Eo) = ((some ((d, [], []) : Eo)).map (·.1)).map fun d => (d, [], []) := fun _ => rfl
  cases op <;> first | (cases ht; done) | skip
  case load T' x =>
    rcases ds with _ | ⟨(a | _) | _, _ | ⟨d2, ds⟩⟩ <;> try rfl
    simp only [valK]
    cases tinfo P T' with
    | none => rfl
    | some ti =>
      cases cellsAt vw a with
      | none => rfl
      | some q =>
        obtain ⟨ls, off⟩ := q
        simp only
        cases cut ls off (if isAggD ti.desc then ti.size else 1) with
        | none =>
          simp only
          cases a <;> try rfl
          rename_i E t xs i off'
          cases off' <;> try rfl
          simp only
          cases (isAggD ti.desc && Nat.beq t.sz 1) with
          | false => rfl
          | true =>
            simp only [cond_true]
            by_cases hn : i + ti.size ≤ List.length (α := t.den) xs
            · rw [if_pos hn]; rfl
            · rw [if_neg hn]; rfl
        | some r =>
          simp only
          cases mkD (isAggD ti.desc) r <;> rfl
  case nilCheck x =>
    rcases ds with _ | ⟨(a | _) | _, _ | ⟨d2, ds⟩⟩ <;> try rfl
    simp only [valK]
    cases liveA vw a with
    | true => rfl
    | false =>
      simp only [Bool.false_eq_true, if_false]
      cases a <;> try rfl
      rename_i id
      simp only
      cases vw id <;> rfl
  case fieldAddr T' x f =>
    rcases ds with _ | ⟨(a | _) | _, _ | ⟨d2, ds⟩⟩ <;> try rfl
    simp only [valK]
    cases P.underlying T' with
    | none => rfl
    | some u =>
      cases u <;> try rfl
      rename_i fs
      simp only
      cases fs[f]? with
      | none => rfl
      | some fd =>
        simp only
        cases tinfo P fd.type with
        | none => rfl
        | some ti =>
          simp only
          by_cases h0 : ti.size = 0
          · rw [if_pos h0]; rfl
          · rw [if_neg h0]
            cases liveA vw a with
            | false => rfl
            | true =>
              simp only [if_true]
              cases addOff a fd.offset <;> rfl
  case indexAddr T' x y =>
    rcases ds with _ | ⟨(a | _) | _, _ | ⟨(b | _) | _, _ | ⟨d3, ds⟩⟩⟩ <;> try rfl
    all_goals (cases b <;> try rfl)
    rename_i k n
    simp only [valK]
    cases P.underlying T' with
    | none => rfl
    | some u =>
      cases u <;> try rfl
      case slice e =>
        cases a <;> try rfl
        case row E t xs =>
          simp only
          by_cases h1 : (tinfo P e).map (·.size) = some t.sz
          · rw [if_pos h1]
            by_cases h2 : 0 ≤ n ∧ n < (List.length (α := t.den) xs : Int)
            · rw [if_pos h2]; rfl
            · rw [if_neg h2]; rfl
          · rw [if_neg h1]; rfl
        case own id =>
          simp only
          cases vw id <;> try rfl
          rename_i E t xs
          simp only
          by_cases h1 : (tinfo P e).map (·.size) = some t.sz
          · rw [if_pos h1]
            by_cases h2 : 0 ≤ n ∧ n < (List.length (α := t.den) xs : Int)
            · rw [if_pos h2]; rfl
            · rw [if_neg h2]; rfl
          · rw [if_neg h1]; rfl
        case cut id m =>
          simp only
          cases vw id <;> try rfl
          rename_i E t xs
          simp only
          by_cases h1 : (tinfo P e).map (·.size) = some t.sz
          · rw [if_pos h1]
            by_cases h2 : 0 ≤ n ∧ n < (m : Int)
            · rw [if_pos h2]; rfl
            · rw [if_neg h2]; rfl
          · rw [if_neg h1]; rfl
      case array m e =>
        simp only
        cases tinfo P e with
        | none => rfl
        | some ti =>
          simp only
          by_cases h0 : ti.size = 0 ∨ m ≤ 1
          · rw [if_pos h0]; rfl
          · rw [if_neg h0]
            cases liveA vw a with
            | false => rfl
            | true =>
              simp only [if_true]
              by_cases h2 : 0 ≤ n ∧ n < (m : Int)
              · rw [if_pos h2]
                rw [splitN_eq _ (show n.toNat < m by omega)]
                cases addOff a (n.toNat * ti.size) <;> rfl
              · rw [if_neg h2]; rfl
  case call c =>
    obtain ⟨f, as, ts⟩ := c
    cases f <;> first | (cases ht; done) | skip
    rename_i f
    cases f <;> first | (cases ht; done) | skip
    rcases ds with _ | ⟨(a | _) | _, _ | ⟨d2, ds⟩⟩ <;> try rfl
    simp only [valK]
    cases lenTy P ts a with
    | false => rfl
    | true =>
      simp only [if_true]
      cases lenOf vw a <;> rfl

/-- An operation that may look at nothing. -/
theorem eff_look {id0 : Nat} {acc : Acc} {fz : Nat → Bool} {o : Oper} (ht : lookOnly o.op = true) (hb : ∀ id, acc.see id = false) (e : Nat → D) : ∃ d? : Option D, ∀ H dt, eff P T ops id0 acc fz o e H dt = d?.map fun d => (d, H, dt) := by
  have hw : isWr T o.op = false := by
    unfold lookOnly at ht
    split at ht <;> first | (rename_i h; rw [h]; rfl) | (cases ht; done)
  cases hg : gq ops o e with
  | none => exact ⟨none, fun H dt => by unfold eff; rw [hg]; rfl⟩
  | some b =>
    cases b
    · exact ⟨some (.one .skip), fun H dt => by unfold eff; rw [hg]; rfl⟩
    · have hv : ∀ H : Nat → Ob, vwl acc H = fun _ => .no := by
        intro H
        funext id
        unfold vwl
        rw [hb id]
        rfl
      refine ⟨(valK P T 0 (fun _ => .no) o.op (o.op.operands.toList.map (evD e)) fun d o i => some ((d, o, i) : Eo)).map (·.1), fun H dt => ?_⟩
      unfold eff
      rw [hg]
      simp only [hw, cond_false, hv, look_val (id0 := id0) (vw := fun _ => .no) ht]
      cases valK P T 0 (fun _ => .no) o.op (o.op.operands.toList.map (evD e)) fun d o i => some ((d, o, i) : Eo) <;> rfl

end Go.Proofs.Fr
