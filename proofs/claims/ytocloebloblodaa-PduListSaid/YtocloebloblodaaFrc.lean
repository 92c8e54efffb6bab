/- A verified evaluator for a part of the language: each function of the program becomes a plain function, and its contract is proved once for all. -/
import Derived.Test.YtocloebloblodaaFrb
import Derived.Orders
import Derived.LoopN
import Derived.ScopeJumps
set_option linter.unusedVariables false
set_option linter.unusedSimpArgs false
/- Appends; all operations that write. -/
namespace Go.Proofs.Fr
open Go Go.RowKit

variable {P : Program} {B : Bs} {nt : Nat} {fr : Nat → Prop} {s : S} {g : Nat → Value} {a : Act} {w w' : World} {R : Type} {H : Nat → Ob} {ok ok' : Nat → Prop}

/-- Elements that lie in a row, wherever. -/
def SrcR (w : World) (ok : Nat → Prop) (t : Ty) (ys : List t.den) (v : Value) : Prop :=
  ∃ A c css, v = .slice A ys.length c ∧ All2 (En w ok t) ys css ∧ ∀ j u, css.flatten[j]? = some u → ∃ ad, A = some ad ∧ w.cell? (ad.add j) = some u

theorem ownsR_cells {e : TypeId} {size : Nat} {n c o : Nat} {xs : List Value} {g : Nat} (h : ownsR w e size (.slice (some ⟨g, o, none⟩) n c) n xs) (j : Nat) (u : Value) (hj : xs[j]? = some u) : w.cell? ((⟨g, o, none⟩ : Addr).add j) = some u := by
  rcases h.2 with ⟨h, _⟩ | ⟨q, o', cap, cur, hv, _, hh, _, _, _, htk⟩
  · cases h
  · simp only [Value.slice.injEq, Option.some.injEq, Addr.mk.injEq] at hv
    obtain ⟨⟨rfl, rfl, _⟩, _, _⟩ := hv
    rw [← htk] at hj
    have hlt := (List.getElem?_eq_some_iff.1 hj).1
    rw [List.getElem?_take_of_lt (by simp only [List.length_take] at hlt; omega), List.getElem?_drop] at hj
    rw [add_at]
    simp only [World.cell?, hh, Option.isSome_none, Bool.false_eq_true, if_false]
    simpa using hj

theorem RowO.src {E : Nat} {t : Ty} {xs : List t.den} {v : Value} (h : RowO w ok E t xs v) : SrcR w ok t xs v := by
  obtain ⟨A, c, hv, _, hA⟩ := h.slice_
  obtain ⟨css, hc, ho⟩ := h
  refine ⟨A, c, css, hv, hc, fun j u hj => ?_⟩
  rcases ho.2 with ⟨rfl, h0⟩ | ⟨q, o, cap, cur, hq, _⟩
  · have hlen := ho.1
    rw [h0, Nat.zero_mul] at hlen
    rw [List.eq_nil_of_length_eq_zero hlen] at hj; simp at hj
  · rw [hq] at hv ho
    simp only [Value.slice.injEq] at hv
    refine ⟨_, hv.1.symm, ?_⟩
    exact ownsR_cells ho j u hj

theorem pick_list {α β : Type} {Q : α → β → Prop} : ∀ (xs : List α), (∀ i (h : i < xs.length), ∃ b, Q xs[i] b) → ∃ bs, All2 Q xs bs
  | [], _ => ⟨[], trivial⟩
  | x :: xs, h => by
    obtain ⟨b, hb⟩ := h 0 (by simp)
    obtain ⟨bs, hbs⟩ := pick_list xs fun i hi => by have := h (i + 1) (by simpa using hi); simpa using this
    exact ⟨b :: bs, hb, hbs⟩

theorem flat_inv {α : Type} {Q : α → List Value → Prop} (n : Nat) : ∀ {xs : List α} {css : List (List Value)}, All2 Q xs css → (∀ x c, Q x c → c.length = n) → ∀ j u, css.flatten[j]? = some u → ∃ i c r, css[i]? = some c ∧ c[r]? = some u ∧ j = i * n + r
  | [], [], _, _, j, u, h => by simp at h
  | [], _ :: _, h, _, _, _, _ => h.elim
  | _ :: _, [], h, _, _, _, _ => h.elim
  | x :: xs, c0 :: css, h, hl, j, u, hj => by
    have h0 := hl x c0 h.1
    simp only [List.flatten_cons] at hj
    by_cases hlt : j < c0.length
    · rw [List.getElem?_append_left hlt] at hj
      exact ⟨0, c0, j, rfl, hj, by omega⟩
    · rw [List.getElem?_append_right (by omega)] at hj
      obtain ⟨i, c, r, h1, h2, h3⟩ := flat_inv n h.2 hl _ u hj
      refine ⟨i + 1, c, r, by simpa using h1, h2, ?_⟩
      rw [Nat.add_mul]; omega

theorem En.src {E : Nat} {t : Ty} {ys : List t.den} {v : Value} (h : En w ok (.sl E t) ys [v]) : SrcR w ok t ys v := by
  obtain ⟨A, c, he, _, hr⟩ := h
  simp only [List.cons.injEq, and_true] at he
  obtain ⟨css, hcs⟩ := pick_list (Q := fun x cs => En w ok t x cs) ys fun i hi => by
    obtain ⟨_, _, cs, _, _, hen, _⟩ := hr i hi
    exact ⟨cs, hen⟩
  -- the same cells, by their places
  have hcell : ∀ i (hi : i < List.length (α := t.den) ys), ∃ k o cs, A = some ⟨k, o, none⟩ ∧ En w ok t (ys[i]'hi) cs ∧ ∀ j (hj : j < cs.length), w.cell? ⟨k, o + i * t.sz + j, none⟩ = some cs[j] := fun i hi => by
    obtain ⟨k, o, cs, hA, _, hen, hc⟩ := hr i hi
    exact ⟨k, o, cs, hA, hen, hc⟩
  clear hcs css
  obtain ⟨css, hcs⟩ : ∃ css : List (List Value), All2 (fun (p : t.den × Nat) cs => En w ok t p.1 cs ∧ ∃ k o, A = some ⟨k, o, none⟩ ∧ ∀ j (hj : j < cs.length), w.cell? ⟨k, o + p.2 * t.sz + j, none⟩ = some cs[j]) (ys.zipIdx) css := by
    refine pick_list _ fun i hi => ?_
    have hi' : i < List.length (α := t.den) ys := by simpa using hi
    obtain ⟨k, o, cs, hA, hen, hc⟩ := hcell i hi'
    refine ⟨cs, ?_, k, o, hA, ?_⟩
    · simpa using hen
    · simpa using hc
  have hlen : css.length = ys.length := by have := hcs.len; simpa using this.symm
  refine ⟨A, c, css, he, All2.of_get hlen.symm fun i hi hi' => ?_, fun j u hj => ?_⟩
  · have := (hcs.get i (by simpa using hi) hi').1
    simpa using this
  · obtain ⟨i, c', r, h1, h2, h3⟩ := flat_inv t.sz hcs (fun _ _ h => h.1.len) j u hj
    obtain ⟨hi, rfl⟩ := List.getElem?_eq_some_iff.1 h1
    obtain ⟨hr', rfl⟩ := List.getElem?_eq_some_iff.1 h2
    obtain ⟨_, k, o, hA, hc⟩ := hcs.get i (by simp; omega) hi
    refine ⟨_, hA, ?_⟩
    rw [add_at, h3, ← Nat.add_assoc]
    have := hc r hr'
    simpa using this

theorem All2_one {t : Ty} {xs : List t.den} {css : List (List Value)} (h : All2 (En w ok t) xs css) : ∀ u ∈ css.flatten, u.oneCell' = true := by
  intro u hu
  obtain ⟨c, hc, hu'⟩ := List.mem_flatten.1 hu
  obtain ⟨i, hi, rfl⟩ := List.getElem_of_mem hc
  exact (h.get i (h.len ▸ hi) hi).one u hu'

theorem blk_own (v : Value) (h : ∀ p, v ≠ .pointer p) : v.ownBlock = blkOf v := by
  cases v <;> first | rfl | skip
  case slice A n c => cases A <;> rfl
  case pointer p => exact absurd rfl (h p)

/-- The first elements of a row that lies wherever, read. -/
theorem first_run {t : Ty} {ys : List t.den} {A : Option Addr} {c : Nat} {csy : List (List Value)} (hcy : All2 (En w ok t) ys csy) (hcell : ∀ j u, csy.flatten[j]? = some u → ∃ ad, A = some ad ∧ w.cell? (ad.add j) = some u) (m : Nat) (hm : m ≤ ys.length) :
    (Builtin.firstCells t.sz m (.slice A ys.length c)).run P w = .ok (csy.take m).flatten.toArray w ∧ (csy.take m).flatten = csy.flatten.take (m * t.sz) := by
  have hcl2 : ∀ c ∈ csy, c.length = t.sz := fun c hc => by obtain ⟨j, hj, rfl⟩ := List.getElem_of_mem hc; exact (hcy.get j (hcy.len ▸ hj) hj).len
  have hfl := flat_len (R := En w ok t) t.sz hcy (fun _ _ h => h.len)
  have hmm := Nat.mul_le_mul_right t.sz hm
  have htf := take_flat csy m hcl2
  refine ⟨?_, htf⟩
  rw [htf]
  cases A with
  | none =>
    have hys : ys.length * t.sz = 0 := by
      by_cases h0 : csy.flatten.length = 0
      · rw [← hfl, h0]
      · obtain ⟨ad, e1, _⟩ := hcell 0 _ (List.getElem?_eq_getElem (by omega))
        cases e1
    have : m * t.sz = 0 := by omega
    simp [Builtin.firstCells, this]
  | some ad =>
    have := run_loadCells_list (P := P) (w := w) ad (csy.flatten.take (m * t.sz)) (fun j v hj => by
      have hlt := (List.getElem?_eq_some_iff.1 hj).1
      rw [List.getElem?_take_of_lt (by simp only [List.length_take] at hlt; omega)] at hj
      obtain ⟨ad', e1, e2⟩ := hcell j v hj
      cases e1; exact e2)
    have hl : (csy.flatten.take (m * t.sz)).length = m * t.sz := by rw [List.length_take]; omega
    rw [hl] at this
    simpa [Builtin.firstCells] using this

/-- What an append does to a row, its elements told by their cells. -/
theorem app_core {T e : TypeId} {ti : TI} (hT : P.underlying T = some (.slice e)) (hti : tinfo P e = some ti) {t : Ty} (h2 : ti.size = t.sz) (h3 : 0 < t.sz) (h4 : 0 < ti.bytes) (h5 : ti.zero.cells.size = ti.size) {xs ys : List t.den} {v y : Value} {css : List (List Value)}
    (hown : ownsR w e t.sz v xs.length css.flatten) (hsrc : SrcR w ok t ys y) (hlim : xs.length + ys.length ≤ maxBytes / ti.bytes) (ty : TypeId) :
    ∃ v' w' csy, (Builtin.append_ #[T, T] ty #[v, y]).run P w = .ok v' w' ∧ All2 (En w ok t) ys csy ∧ ownsR w' e t.sz v' (xs.length + ys.length) (css.flatten ++ csy.flatten) ∧ w.grownBy w' v.ownBlock ∧ (v'.ownBlock = v.ownBlock ∨ v'.ownBlock = some w.heap.size) := by
  obtain ⟨hu, it, hit, hz', hsz, hby⟩ := tinfo_facts hti
  obtain ⟨A, c, csy, rfl, hcs, hcell⟩ := hsrc
  have hmul : (xs.length + ys.length) * ti.bytes ≤ maxBytes := (Nat.le_div_iff_mul_le h4).1 hlim
  have hfl := flat_len (R := En w ok t) t.sz hcs (fun _ _ h => h.len)
  have h63 : xs.length + ys.length ≤ maxLen := by have := Nat.le_mul_of_pos_right (xs.length + ys.length) h4; unfold maxBytes at hmul; unfold maxLen; omega
  have hbytes : (xs.length + ys.length) * it.bytes ≤ 140737488355328 := by rw [hby]; unfold maxBytes at hmul; exact hmul
  cases A with
  | some ad =>
    have hnews : ∀ j u, csy.flatten[j]? = some u → w.cell? (ad.add j) = some u := fun j u hj => by obtain ⟨ad', e1, e2⟩ := hcell j u hj; cases e1; exact e2
    rcases hown.2 with ⟨rfl, h0⟩ | ⟨q, o, cap, cur, rfl, _, hh, hn, hcm, hcur, htk⟩
    · have hown0 : w.ownsRow 0 e t.sz (.slice none 0 0) xs.length css.flatten := ⟨hown.1, .inl ⟨rfl, h0⟩⟩
      obtain ⟨v', w', q1, q2, q3, _, q5⟩ := run_append_own_at (P := P) w 0 T ty e it ti.zero t.sz ti.bytes hT hit hz' (by rw [hsz, h2]) hby (by rw [h5, h2]) h3 (.slice none 0 0) xs.length css.flatten hown0 ad ys.length c csy.flatten hfl
        hnews (All2_one hcs) h63 (by rw [← hby]; exact hbytes) (Nat.zero_le _)
      exact ⟨v', w', csy, q1, hcs, ownsR_of q2, q3, q5⟩
    · have hs1 : it.size = t.sz := by rw [hsz, h2]
      have hlen : (css.flatten ++ csy.flatten).length = (xs.length + ys.length) * t.sz := by rw [List.length_append, hown.1, hfl, Nat.add_mul]
      have hl : csy.flatten.length = ys.length * it.size := by rw [hs1]; exact hfl
      by_cases hroom : xs.length + ys.length ≤ cap
      · have hm := Nat.mul_le_mul_right t.sz hroom
        rw [Nat.add_mul] at hm
        have hfit : o + xs.length * t.sz + csy.flatten.length ≤ cur.size := by rw [hfl]; omega
        have hfc := first_run (P := P) (c := c) hcs hcell ys.length (Nat.le_refl _)
        rw [List.take_of_length_le (Nat.le_of_eq hcs.len.symm)] at hfc
        have hst := run_storeCells_at (P := P) q (o + xs.length * t.sz) e csy.flatten 0 cur w hh (by simpa using hfit) (All2_one hcs)
        simp only [Nat.add_zero] at hst
        have hr : (Builtin.append_ #[T, T] ty #[.slice (some ⟨q, o, none⟩) xs.length cap, .slice (some ad) ys.length c]).run P w = .ok (.slice (some ⟨q, o, none⟩) (xs.length + ys.length) cap) (w.setRow q (cur.toList.take (o + xs.length * t.sz) ++ csy.flatten ++ cur.toList.drop (o + xs.length * t.sz + csy.flatten.length)).toArray) := by
          simp [Builtin.append_, run_underlying hT, run_sizeOf hti, Builtin.lenOf, h2, hfc.1, hroom, add_at, hst]
        refine ⟨_, _, csy, hr, hcs, ⟨hlen, .inr ⟨q, o, cap, _, rfl, Nat.zero_le _, setRow_heap w q cur _ e _ hh, hroom, hcm, ?_, ?_⟩⟩, ⟨rfl, rfl, rfl, by simp, fun k _ hk => setRow_other w q k _ (fun e => hk (by simp [Value.ownBlock, e]))⟩, .inl rfl⟩
        · simp only [List.size_toArray, List.length_append, List.length_take, List.length_drop, Array.length_toList]
          omega
        · have hN : (xs.length + ys.length) * t.sz = xs.length * t.sz + csy.flatten.length := by rw [hfl, Nat.add_mul]
          rw [List.toList_toArray, hN, put_at cur.toList csy.flatten o (xs.length * t.sz) (xs.length * t.sz + csy.flatten.length) (Nat.le_refl _) (by rw [Array.length_toList, ← Nat.add_assoc]; exact hfit), List.take_take, Nat.min_eq_left (by omega), htk, List.drop_eq_nil_of_le (by rw [List.length_take]; omega), List.append_nil]
      · have holds : ∀ j u, css.flatten[j]? = some u → w.cell? ((⟨q, o, none⟩ : Addr).add j) = some u := ownsR_cells hown
        have hr := run_append_grow (P := P) w T ty e it ti.zero hT hit hz' ⟨q, o, none⟩ xs.length cap css.flatten (by rw [hs1]; exact hown.1) holds ad ys.length c csy.flatten hl hnews (by omega) (by unfold maxLen at h63; omega) (growslice_fits (by unfold maxLen at h63; omega) hbytes)
        have hge := grownCap_ge w (xs.length + ys.length) cap e
        refine ⟨_, _, csy, hr, hcs, ⟨hlen, .inr ⟨w.heap.size, 0, _, _, rfl, Nat.zero_le _, heap_alloc_new w.drew _, hge, grownCap_le_maxLen w (xs.length + ys.length) cap e h63, ?_, ?_⟩⟩, ⟨rfl, rfl, rfl, by simp, fun k hk _ => heap_alloc_old w.drew _ hk⟩, .inr rfl⟩
        · simp only [Array.size_append, List.size_toArray, size_zeroCells, h5, h2, hown.1, hfl, ← Nat.add_mul, Nat.zero_add]
          exact Nat.mul_le_mul_right _ (by omega)
        · simp only [Array.toList_append, List.append_assoc, List.drop_zero]
          rw [← List.append_assoc, ← hlen]
          exact List.take_left
  | none =>
    have hys : ys = [] := by
      cases ys with
      | nil => rfl
      | cons y ys =>
        have : 0 < csy.flatten.length := by rw [hfl]; simp only [List.length_cons]; exact Nat.mul_pos (by omega) h3
        obtain ⟨ad, e1, _⟩ := hcell 0 _ (List.getElem?_eq_getElem this)
        cases e1
    subst hys
    have hcsy : csy = [] := All2.nil_l hcs
    subst hcsy
    refine ⟨v, w, [], ?_, trivial, by simpa using hown, ⟨rfl, rfl, rfl, Nat.le_refl _, fun _ _ _ => rfl⟩, .inl rfl⟩
    rcases hown.2 with ⟨rfl, h0⟩ | ⟨q, o, cap, cur, rfl, _, hh, hn, _⟩
    · simp [Builtin.append_, run_underlying hT, sizeOf, typeInfo, hit, Builtin.lenOf, Builtin.firstCells]
    · simp [Builtin.append_, run_underlying hT, sizeOf, typeInfo, hit, Builtin.lenOf, Builtin.firstCells, hn, storeCells]

/-- Some of what lies in a row. -/
theorem SrcR.sub {t : Ty} {xs : List t.den} {A A' : Option Addr} {c lo n : Nat} (h : SrcR w ok t xs (.slice A xs.length c)) (hc : xs.length ≤ c) (hn : lo + n ≤ xs.length) (hA : (A = none ∧ A' = none) ∨ ∃ ad ad', A = some ad ∧ A' = some ad' ∧ ((c = lo ∧ ∃ j, j ≤ lo ∧ ad' = ad.add (j * t.sz)) ∨ ad' = ad.add (lo * t.sz))) :
    SrcR w ok t ((xs.drop lo).take n) (.slice A' n (c - lo)) := by
  obtain ⟨A0, c0, css, hv, hcs, hcell⟩ := h
  simp only [Value.slice.injEq] at hv
  obtain ⟨rfl, _, rfl⟩ := hv
  have hcl : ∀ c ∈ css, c.length = t.sz := fun c hc => by obtain ⟨j, hj, rfl⟩ := List.getElem_of_mem hc; exact (hcs.get j (hcs.len ▸ hj) hj).len
  have hcl2 : ∀ c ∈ css.drop lo, c.length = t.sz := fun c hc => hcl c (List.mem_of_mem_drop hc)
  have hlen : ((xs.drop lo).take n).length = n := by rw [List.length_take, List.length_drop]; omega
  refine ⟨A', c - lo, (css.drop lo).take n, by rw [hlen], (hcs.drop lo).take n, fun j u hj => ?_⟩
  rw [take_flat _ _ hcl2, drop_flat _ _ hcl] at hj
  have hlt := (List.getElem?_eq_some_iff.1 hj).1
  have hjn : j < n * t.sz := by rw [List.length_take] at hlt; omega
  rw [List.getElem?_take_of_lt hjn, List.getElem?_drop] at hj
  obtain ⟨ad, e1, e2⟩ := hcell _ u hj
  have hnp : 0 < n := by
    rcases Nat.eq_zero_or_pos n with h | h
    · rw [h, Nat.zero_mul] at hjn; omega
    · exact h
  rcases hA with ⟨e3, _⟩ | ⟨ad0, ad', e3, e4, e5⟩
  · rw [e3] at e1; cases e1
  · rw [e3] at e1; cases e1
    refine ⟨ad', e4, ?_⟩
    rcases e5 with ⟨h, _⟩ | h
    · omega
    · rw [h, addr_add2]; exact e2

section
variable {o : Oper} {id0 : Nat} {k : S → D → Option R} {r : R} {hb : Nat → Ob}

theorem srcOf_R (hhb : ∀ id, hb id = .gone ∨ hb id = s.H id) (hr : Rel B nt fr s g a w) {y : Operand} {b : L} (hy : evD s.e y = .one b) {t : Ty} {ys : List t.den} (h : srcOf t hb b = some ys) : SrcR w (okB B g s.H w) t ys (a.eval y) := by
  obtain ⟨hy1, _⟩ := ev_R hr y
  rw [hy] at hy1
  cases b <;> simp only [srcOf] at h <;> try cases h
  case row E t' xs =>
    split at h
    · rename_i ht; subst ht; cases h
      exact En.src (show En w (okB B g s.H w) (.sl E t') xs [a.eval y] from hy1)
    · cases h
  case nils =>
    rw [show a.eval y = .slice none 0 0 from hy1]
    exact ⟨none, 0, [], rfl, trivial, fun j u hj => by simp at hj⟩
  case own id =>
    split at h
    · rename_i E t' xs hv
      split at h
      · rename_i ht; subst ht; cases h
        have hv' : (s.H id).vw = .row E t' xs := by rcases hhb id with e | e <;> rw [e] at hv; cases hv; exact hv
        have hva : a.eval y = g id := hy1.2 t' xs.length (sh_of_vw hv')
        rw [hva]
        have hob := hr.objs id
        cases e : s.H id with
        | gone => rw [e] at hv'; cases hv'
        | box T ls => rw [e] at hv'; cases hv'
        | row E' t'' xs' => rw [e] at hv' hob; cases hv'; exact RowO.src hob
        | fr E' t'' xs' => rw [e] at hv' hob; cases hv'; exact En.src hob
        | fbx T ls => rw [e] at hv'; cases hv'
        | clo f ls => rw [e] at hv'; cases hv'
      · cases h
    · cases h
  case cut id n =>
    split at h
    · rename_i E' t' xs hv
      split at h
      · rename_i ht; subst ht; cases h
        have hv' : (s.H id).vw = .row E' t' xs := by rcases hhb id with e | e <;> rw [e] at hv; cases hv; exact hv
        obtain ⟨hn, A, c, hg, hva⟩ := hy1.2 t' xs.length (sh_of_vw hv')
        rw [hva]
        have hob := hr.objs id
        cases e : s.H id with
        | gone => rw [e] at hv'; cases hv'
        | box T ls => rw [e] at hv'; cases hv'
        | row E' t'' xs' =>
          rw [e] at hv' hob; cases hv'
          have hob2 : RowO w (okB B g s.H w) E' t' xs (g id) := hob
          rw [hg] at hob2
          exact RowO.src (RowO.take_ hob2 hn)
        | fr E' t'' xs' =>
          rw [e] at hv' hob; cases hv'
          have hob2 : En w (okB B g s.H w) (.sl E' t') xs [g id] := hob
          rw [hg] at hob2
          exact En.src (En.take_ hob2 hn)
        | fbx T ls => rw [e] at hv'; cases hv'
        | clo f ls => rw [e] at hv'; cases hv'
      · cases h
    · cases h
  case vi id lo hi =>
    split at h
    · rename_i E' t' xs hv
      split at h
      · rename_i ht; subst ht; cases h
        have hv' : (s.H id).vw = .row E' t' xs := by rcases hhb id with e | e <;> rw [e] at hv; cases hv; exact hv
        obtain ⟨hn, A, A', c, hg, hva, hA⟩ := hy1.2 t' xs.length (sh_of_vw hv')
        rw [hva]
        have hob := hr.objs id
        have hsrc : SrcR w (okB B g s.H w) t' xs (g id) ∧ ∀ c', g id = .slice A xs.length c' → xs.length ≤ c' := by
          cases e : s.H id with
          | gone => rw [e] at hv'; cases hv'
          | box T ls => rw [e] at hv'; cases hv'
          | row E' t'' xs' =>
            rw [e] at hv' hob; cases hv'
            have hob2 : RowO w (okB B g s.H w) E' t' xs (g id) := hob
            refine ⟨RowO.src hob2, fun c' hc' => ?_⟩
            obtain ⟨A2, c2, h1, h2, _⟩ := RowO.slice_ hob2
            rw [h1] at hc'; cases hc'; exact h2
          | fr E' t'' xs' =>
            rw [e] at hv' hob; cases hv'
            have hob2 : En w (okB B g s.H w) (.sl E' t') xs [g id] := hob
            refine ⟨En.src hob2, fun c' hc' => ?_⟩
            obtain ⟨A2, c2, h1, h2, _⟩ := hob2
            simp only [List.cons.injEq, and_true] at h1
            rw [h1] at hc'; cases hc'; exact h2
          | fbx T ls => rw [e] at hv'; cases hv'
          | clo f ls => rw [e] at hv'; cases hv'
        obtain ⟨hs1, hs2⟩ := hsrc
        rw [hg] at hs1
        rw [List.drop_take]
        exact SrcR.sub (n := hi - lo) hs1 (hs2 c hg) (by rw [Nat.add_sub_cancel' hn.1]; exact hn.2) hA
      · cases h
    · cases h

theorem app_run {T : TypeId} {x y : Operand} (ho : o.op = .call { callee := .builtin .append, args := #[x, y], argTypes := #[T, T] }) {v v' u : Value} (hx : a.eval x = v) (hy : a.eval y = u) (h : (Builtin.append_ #[T, T] o.type #[v, u]).run P w = .ok v' w') :
    (execOp a.eval o).run P w = .ok (.value v') w' := by
  subst hx; subst hy
  simp [execOp, ho, resolve, invoke, builtin, h]

theorem w_append (hhb : ∀ id, hb id = .gone ∨ hb id = s.H id) (hr : Rel B nt fr s g a w) (hfr : ∀ j, id0 ≤ j → j < id0 + 8 → fr j) (hd : dstOk nt o.dst = true) {T e : TypeId} {x y : Operand} (ho : o.op = .call { callee := .builtin .append, args := #[x, y], argTypes := #[T, T] })
    {l b : L} (hx : evD s.e x = .one l) (hy : evD s.e y = .one b) (hT : P.underlying T = some (.slice e)) {ti : TI} (hti : tinfo P e = some ti) {t : Ty} (h2 : ti.size = t.sz) (h3 : 0 < t.sz) (h4 : 0 < ti.bytes) (h5 : ti.zero.cells.size = ti.size) {xs ys : List t.den} (hs : srcOf t hb b = some ys)
    {H' : Nat → Ob} {dt' : List Nat} {who : Option Nat} (hl : (who = none ∧ l = .nils ∧ xs = [] ∧ H' = upd s.H id0 (.row e t ys) ∧ dt' = s.dt) ∨ ∃ id, ∃ xs0 : List t.den, who = some id ∧ ((l = .own id ∧ xs = xs0) ∨ (∃ n, l = .cut id n ∧ xs = xs0.take n) ∨ ∃ lo hi, l = .vi id lo hi ∧ xs = (xs0.take hi).drop lo) ∧ hb id = .row e t xs0 ∧ H' = upd (upd s.H id .gone) id0 (.row e t (xs ++ ys)) ∧ dt' = id :: s.dt) (hlim : xs.length + ys.length ≤ maxBytes / ti.bytes)
    (hv : k { s with H := H', dt := dt' } (.one (.own id0)) = some r) : WGoal P B nt fr id0 s a w o k r := by
  obtain ⟨hx1, hxi⟩ := ev_R hr x
  rw [hx] at hx1 hxi
  have hsrc := srcOf_R hhb hr hy hs
  have hgone : s.H id0 = .gone := hr.fresh id0 (hfr id0 (Nat.le_refl _) (by omega))
  -- the row that grows
  have hrow : ∃ css, All2 (En w (okB B g s.H w) t) xs css ∧ ownsR w e t.sz (a.eval x) xs.length css.flatten ∧ (∀ p, a.eval x ≠ .pointer p) ∧
      ((who = none ∧ blkOf (a.eval x) = none) ∨ ∃ id, ∃ xs0 : List t.den, who = some id ∧ s.H id = .row e t xs0 ∧ blkOf (a.eval x) = blkOf (g id) ∧ id ≠ id0) := by
    rcases hl with ⟨hw, rfl, rfl, _, _⟩ | ⟨id, xs0, hw, hlx, hb0, _, _⟩
    · have : a.eval x = .slice none 0 0 := hx1
      rw [this]
      exact ⟨[], trivial, ownsR_nil _ _ _, by simp, .inl ⟨hw, rfl⟩⟩
    · have hb1 : s.H id = .row e t xs0 := by rcases hhb id with e | e <;> rw [e] at hb0; cases hb0; exact hb0
      have hne : id ≠ id0 := fun e => by rw [e, hgone] at hb1; cases hb1
      have hob := hr.objs id
      rw [hb1] at hob
      obtain ⟨A, c, hsl, _⟩ := RowO.slice_ hob
      have hfin : ∀ A' n c', a.eval x = .slice A' n c' → blkOf (.slice A' n c') = blkOf (.slice A xs0.length c) → RowO w (okB B g s.H w) e t xs (a.eval x) → ∃ css, All2 (En w (okB B g s.H w) t) xs css ∧ ownsR w e t.sz (a.eval x) xs.length css.flatten ∧ (∀ p, a.eval x ≠ .pointer p) ∧
          ((who = none ∧ blkOf (a.eval x) = none) ∨ ∃ id, ∃ xs0 : List t.den, who = some id ∧ s.H id = .row e t xs0 ∧ blkOf (a.eval x) = blkOf (g id) ∧ id ≠ id0) := by
        intro A' n c' hva hA ho
        obtain ⟨css, hc, ho'⟩ := ho
        refine ⟨css, hc, ho', by rw [hva]; simp, .inr ⟨id, xs0, hw, hb1, ?_, hne⟩⟩
        rw [hva, hsl, hA]
      rcases hlx with ⟨rfl, rfl⟩ | ⟨n, rfl, rfl⟩ | ⟨lo, hi, rfl, rfl⟩
      · have hva : a.eval x = g id := hx1.2 t xs.length (by rw [hb1]; rfl)
        exact hfin A _ c (hva.trans hsl) rfl (hva ▸ hob)
      · obtain ⟨hn, A', c', hg, hva⟩ := hx1.2 t xs0.length (by rw [hb1]; rfl)
        rw [hg] at hsl
        cases hsl
        refine hfin _ _ _ hva (by cases A <;> rfl) ?_
        rw [hva]
        have hob2 : RowO w (okB B g s.H w) e t xs0 (g id) := hob
        rw [hg] at hob2
        exact RowO.take_ hob2 hn
      · obtain ⟨hn, A', A'', c', hg, hva, hA⟩ := hx1.2 t xs0.length (by rw [hb1]; rfl)
        rw [hg] at hsl
        cases hsl
        have hob2 : RowO w (okB B g s.H w) e t xs0 (g id) := hob
        rw [hg] at hob2
        obtain ⟨q1, q2⟩ := hob2.sub_ (n := hi - lo) (by rw [Nat.add_sub_cancel' hn.1]; exact hn.2) hA
        rw [← List.drop_take] at q1
        refine hfin _ _ _ hva q2 ?_
        rw [hva]
        exact q1
  obtain ⟨css, hcs, hown, hnp, hwho⟩ := hrow
  obtain ⟨v', w', csy, hrun, hcy, hown', hgrow, hat⟩ := app_core hT hti h2 h3 h4 h5 hown hsrc hlim o.type
  have hv'np : ∀ p, v' ≠ .pointer p := by
    intro p e
    rcases hown'.2 with ⟨h, _⟩ | ⟨q, o', cap, cur, h, _⟩ <;> rw [h] at e <;> cases e
  have hbv' : blkOf v' = v'.ownBlock := (blk_own v' hv'np).symm
  have hbx : blkOf (a.eval x) = (a.eval x).ownBlock := (blk_own _ hnp).symm
  have hxy : xs.length + ys.length = (xs ++ ys).length := by simp
  -- all in one
  have main : ∀ (tch : Nat → Prop), (∀ j, tch j ↔ (j = id0 ∨ who = some j)) → H' id0 = .row e t (xs ++ ys) → (∀ j, ¬ tch j → H' j = s.H j) → (∀ j, who = some j → j ≠ id0 → H' j = .gone) →
      Rel B nt (less fr id0) { s with H := H', dt := dt' } (upd g id0 v') a w' := by
    intro tch htch h0 hun hgn
    have hownx : ∀ q, blkOf (a.eval x) = some q → ∃ j, who = some j ∧ owned g s.H j = some q := by
      intro q hq
      rcases hwho with ⟨_, e2⟩ | ⟨id, xs0, e1, e2, e3, _⟩
      · rw [e2] at hq; cases hq
      · exact ⟨id, e1, by simpa [owned, e2, ← e3] using hq⟩
    have own' : ∀ j q, tch j → owned (upd g id0 v') H' j = some q → j = id0 ∧ blkOf v' = some q := by
      intro j q hj hq
      by_cases e1 : j = id0
      · subst e1
        refine ⟨rfl, ?_⟩
        simpa [owned, h0, upd_same] using hq
      · have := (htch j).1 hj
        simp only [owned, hgn j (this.resolve_left e1) e1] at hq
        cases hq
    refine Rel.step hr tch rfl (fun j h => h.1) ?_ ?_ ?_ ?_ ?_ hgrow.os hgrow.tape hgrow.output hgrow.size ?_ ?_ ?_
    · intro j hj
      refine ⟨hun j hj, upd_ne _ _ fun e => hj ((htch j).2 (.inl e))⟩
    · intro j hj hf
      have hne : j ≠ id0 := fun e => hf (e ▸ hfr id0 (Nat.le_refl _) (by omega))
      left
      show shO (H' j) = none
      rw [hgn j (((htch j).1 hj).resolve_left hne) hne]; rfl
    · intro j q hj hq
      obtain ⟨rfl, hq'⟩ := own' j q hj hq
      rw [hbv'] at hq'
      rcases hat with h | h
      · rw [h, ← hbx] at hq'
        obtain ⟨j', h1, h2⟩ := hownx q hq'
        exact .inr ⟨j', (htch j').2 (.inr h1), h2⟩
      · rw [h] at hq'; cases hq'; exact .inl (Nat.le_refl _)
    · intro i j q hi hj hiq hjq
      rw [(own' i q hi hiq).1, (own' j q hj hjq).1]
    · intro q hq hne
      refine hgrow.block q hq fun e => ?_
      obtain ⟨j', h1, h2⟩ := hownx q (hbx.trans e.symm)
      exact hne j' ((htch j').2 (.inr h1)) h2
    · intro hk hc j hj
      by_cases e1 : j = id0
      · subst e1
        show OB _ _ _ _ _ (H' j)
        rw [h0]
        show RowO _ _ _ _ _ (upd g j v' j)
        rw [upd_same]
        refine ⟨css ++ csy, (hcs.app hcy).mono fun _ _ h => En.mono hk h, ?_⟩
        rw [← hxy, List.flatten_append]; exact hown'
      · show OB _ _ _ _ _ (H' j)
        rw [hgn j (((htch j).1 hj).resolve_left e1) e1]; trivial
    · intro j hj q hq
      have hq' : q ∈ (H' j).kids := hq
      by_cases e1 : j = id0
      · subst e1; rw [h0] at hq'; cases hq'
      · rw [hgn j (((htch j).1 hj).resolve_left e1) e1] at hq'; cases hq'
    · intro j hf
      have hne : j ≠ id0 := fun e => hf.2 ⟨by omega, by omega⟩
      show H' j = .gone
      by_cases hj : tch j
      · exact hgn j (((htch j).1 hj).resolve_left hne) hne
      · rw [hun j hj]; exact hr.fresh j hf.1
  have hext : WExt id0 s { s with H := H', dt := dt' } := by
    rcases hl with ⟨_, _, _, h1, h2⟩ | ⟨id, _, _, _, _, h1, h2⟩
    · exact ⟨rfl, rfl, [], h2, fun j hj _ => by show H' j = _; rw [h1, upd_ne _ _ (by omega)]⟩
    · exact ⟨rfl, rfl, [id], h2, fun j hj hn => by show H' j = _; rw [h1, upd_ne _ _ (by omega), upd_ne _ _ (by simpa using hn)]⟩
  refine ⟨_, _, hv, hext, fun next Q hn => ?_⟩
  have hrun' := app_run (P := P) ho rfl rfl hrun
  unfold Oper.wp
  rw [hrun']
  refine hn (upd g id0 v') _ _ (Rel.put_ ?_ hd (d := .one (.own id0)) ?_ ?_)
  · rcases hl with ⟨rfl, rfl, rfl, rfl, _⟩ | ⟨id, xs0, rfl, hlx, hb0, rfl, _⟩
    · refine main (fun j => j = id0) (fun j => by simp) (by simp [upd_same]) (fun j hj => upd_ne _ _ hj) (fun j hj => by cases hj)
    · have hne : id ≠ id0 := by
        rcases hwho with ⟨h, _⟩ | ⟨id', _, h, _, _, h'⟩ <;> cases h
        exact h'
      refine main (fun j => j = id0 ∨ j = id) (fun j => by simp only [Option.some.injEq]; constructor <;> (rintro (h | h); exact .inl h; exact .inr h.symm)) (by simp [upd_same]) (fun j hj => ?_) (fun j hj hj' => ?_)
      · rw [upd_ne _ _ (fun h => hj (.inl h)), upd_ne _ _ (fun h => hj (.inr h))]
      · cases hj; rw [upd_ne _ _ hj', upd_same]
  · refine ⟨?_, fun t' n _ => (upd_same _ _ _).symm⟩
    rcases hown'.2 with ⟨h, _⟩ | ⟨q, o', cap, cur, h, _⟩ <;> rw [h] <;> rfl
  · intro j hj hl'
    have : j = id0 := by simpa [D.ids, D0.ids, D0.ls, L.ids] using hj
    subst this
    exact hl'.2 ⟨Nat.le_refl _, by omega⟩

theorem w_copy (hhb : ∀ id, hb id = .gone ∨ hb id = s.H id) (hr : Rel B nt fr s g a w) (hd : dstOk nt o.dst = true) {T T' e : TypeId} {x y : Operand} (ho : o.op = .call { callee := .builtin .copy, args := #[x, y], argTypes := #[T, T'] })
    {id : Nat} {b : L} (hx : evD s.e x = .one (.own id)) (hy : evD s.e y = .one b) (hT : P.underlying T = some (.slice e)) {ti : TI} (hti : tinfo P e = some ti) {E : Nat} {t : Ty} {xs ys : List t.den} (hb0 : hb id = .row E t xs) (h2 : ti.size = t.sz) (h3 : 0 < t.sz) (hs : srcOf t hb b = some ys)
    (hv : k { s with H := upd s.H id (.row E t (copyL xs ys)), dt := id :: s.dt } (.one (.int .i64 ((min xs.length ys.length : Nat) : Int))) = some r) : WGoal P B nt fr id0 s a w o k r := by
  have hb1 : s.H id = .row E t xs := by rcases hhb id with e | e <;> rw [e] at hb0; cases hb0; exact hb0
  obtain ⟨hx1, _⟩ := ev_R hr x
  rw [hx] at hx1
  have hva : a.eval x = g id := hx1.2 t xs.length (by rw [hb1]; rfl)
  have hob := hr.objs id
  rw [hb1] at hob
  obtain ⟨A, c, csy, hvy, hcy, hcell⟩ := srcOf_R hhb hr hy hs
  obtain ⟨css, hcs, hlen, hos⟩ := hob
  have hcl : ∀ c ∈ css, c.length = t.sz := fun c hc => by obtain ⟨j, hj, rfl⟩ := List.getElem_of_mem hc; exact (hcs.get j (hcs.len ▸ hj) hj).len
  have hcl2 : ∀ c ∈ csy, c.length = t.sz := fun c hc => by obtain ⟨j, hj, rfl⟩ := List.getElem_of_mem hc; exact (hcy.get j (hcy.len ▸ hj) hj).len
  have hfl := flat_len (R := En w (okB B g s.H w) t) t.sz hcy (fun _ _ h => h.len)
  have hfx := flat_len (R := En w (okB B g s.H w) t) t.sz hcs (fun _ _ h => h.len)
  let m := min ys.length xs.length
  have hm : m * t.sz ≤ ys.length * t.sz := Nat.mul_le_mul_right _ (Nat.min_le_left _ _)
  have hm2 : m * t.sz ≤ xs.length * t.sz := Nat.mul_le_mul_right _ (Nat.min_le_right _ _)
  -- the cells that are read
  have hfirst : (Builtin.firstCells t.sz m (a.eval y)).run P w = .ok (csy.flatten.take (m * t.sz)).toArray w := by
    rw [hvy]
    cases A with
    | none =>
      have hys : ys.length * t.sz = 0 := by
        by_cases h0 : csy.flatten.length = 0
        · rw [← hfl, h0]
        · obtain ⟨ad, e1, _⟩ := hcell 0 _ (List.getElem?_eq_getElem (by omega))
          cases e1
      have : m * t.sz = 0 := by omega
      simp [Builtin.firstCells, this]
    | some ad =>
      have := run_loadCells_list (P := P) (w := w) ad (csy.flatten.take (m * t.sz)) (fun j v hj => by
        have hlt := (List.getElem?_eq_some_iff.1 hj).1
        rw [List.getElem?_take_of_lt (by simp only [List.length_take] at hlt; omega)] at hj
        obtain ⟨ad', e1, e2⟩ := hcell j v hj
        cases e1; exact e2)
      have hl : (csy.flatten.take (m * t.sz)).length = m * t.sz := by rw [List.length_take]; omega
      rw [hl] at this
      simpa [Builtin.firstCells] using this
  have h1c : ∀ u ∈ csy.flatten.take (m * t.sz), u.oneCell' = true := fun u hu => All2_one hcy u (List.mem_of_mem_take hu)
  have hcopy : All2 (En w (okB B g s.H w) t) (copyL xs ys) (csy.take xs.length ++ css.drop ys.length) := (hcy.take _).app (hcs.drop _)
  have hcopyl : (copyL xs ys).length = xs.length := by unfold copyL; simp only [List.length_append, List.length_take, List.length_drop]; omega
  have hcat : (csy.take xs.length ++ css.drop ys.length).flatten = csy.flatten.take (m * t.sz) ++ css.flatten.drop (m * t.sz) := by
    rw [List.flatten_append, take_flat csy _ hcl2, drop_flat css _ hcl]
    by_cases hle : xs.length ≤ ys.length
    · have e1 : m = xs.length := Nat.min_eq_right hle
      have q : xs.length * t.sz ≤ ys.length * t.sz := Nat.mul_le_mul_right _ hle
      rw [e1, List.drop_eq_nil_of_le (by rw [hfx]; exact q), List.drop_eq_nil_of_le (by rw [hfx]; exact Nat.le_refl _)]
    · have e1 : m = ys.length := Nat.min_eq_left (by omega)
      have q : ys.length * t.sz ≤ xs.length * t.sz := Nat.mul_le_mul_right _ (by omega)
      rw [e1, List.take_of_length_le (by rw [hfl]; exact q), List.take_of_length_le (by rw [hfl]; exact Nat.le_refl _)]
  have hmin : (goInt m) = .int .i64 ((min xs.length ys.length : Nat) : Int) := by
    show Value.int .i64 _ = _
    rw [Nat.min_comm]
  -- the run, and the row then
  have hrun : ∃ w', (Builtin.copy_ #[T, T'] o.type #[a.eval x, a.eval y]).run P w = .ok (goInt m) w' ∧ ownsR w' E t.sz (g id) xs.length (csy.flatten.take (m * t.sz) ++ css.flatten.drop (m * t.sz)) ∧
      w'.os = w.os ∧ w'.tape = w.tape ∧ w'.output = w.output ∧ w'.heap.size = w.heap.size ∧ ∀ q, owned g s.H id ≠ some q → w'.heap[q]? = w.heap[q]? := by
    have hownq : owned g s.H id = blkOf (g id) := by simp [owned, hb1]
    have hlc : (csy.flatten.take (m * t.sz) ++ css.flatten.drop (m * t.sz)).length = xs.length * t.sz := by
      simp only [List.length_append, List.length_take, List.length_drop]; omega
    rcases hos with ⟨e1, h0⟩ | ⟨q, oo, cap, cur, e1, hq, hh, hn, hml, hcur, htk⟩
    · have hm0 : m = 0 := by show min ys.length xs.length = 0; omega
      refine ⟨w, ?_, ⟨by rw [hlc], .inl ⟨e1, h0⟩⟩, rfl, rfl, rfl, rfl, fun _ _ => rfl⟩
      have hfm := hfirst
      rw [hm0] at hfm ⊢
      have hmin0 : Nat.min ys.length 0 = 0 := Nat.min_zero _
      rw [hva, e1]
      rw [hvy] at hfm ⊢
      simp [Builtin.copy_, Builtin.lenOf, run_underlying hT, run_sizeOf hti, h2, hmin0, hfm]
    · have hz : (csy.flatten.take (m * t.sz)).length = m * t.sz := by rw [List.length_take]; omega
      have hnm := Nat.mul_le_mul_right t.sz hn
      have hst := run_storeCells_at (P := P) q oo E (csy.flatten.take (m * t.sz)) 0 cur w hh (by rw [hz]; omega) h1c
      simp only [Nat.add_zero] at hst
      refine ⟨w.setRow q (cur.toList.take oo ++ csy.flatten.take (m * t.sz) ++ cur.toList.drop (oo + (csy.flatten.take (m * t.sz)).length)).toArray, ?_, ⟨?_, .inr ⟨q, oo, cap, _, e1, hq, setRow_heap w q cur _ _ _ hh, hn, hml, ?_, ?_⟩⟩, rfl, rfl, rfl, by simp [World.setRow], fun q' hne => setRow_other w q q' _ (fun e => hne (by rw [hownq, e1, e]; rfl))⟩
      · rw [hva, e1]
        have hmm : Nat.min ys.length xs.length = m := rfl
        rw [hvy] at hfirst ⊢
        simp [Builtin.copy_, Builtin.lenOf, run_underlying hT, run_sizeOf hti, h2, hmm, hfirst, hst]
      · exact hlc
      · simp only [List.size_toArray, List.length_append, List.length_take, List.length_drop, Array.length_toList]
        omega
      · have hp := put_at cur.toList (csy.flatten.take (m * t.sz)) oo 0 (xs.length * t.sz) (by rw [hz]; omega) (by rw [Array.length_toList]; exact Nat.le_trans (Nat.add_le_add_left hnm oo) hcur)
        simp only [Nat.add_zero, List.take_zero, List.nil_append, Nat.zero_add] at hp
        rw [List.toList_toArray, hp, htk, hz]
  obtain ⟨w', hrun, hrow, ho1, ho2, ho3, ho4, ho5⟩ := hrun
  refine ⟨_, _, hv, ⟨rfl, rfl, [id], rfl, fun j _ hj => upd_ne _ _ (by simpa using hj)⟩, fun next Q hn => ?_⟩
  have hrun' : (execOp a.eval o).run P w = .ok (.value (goInt m)) w' := by simp [execOp, ho, resolve, invoke, builtin, hrun]
  unfold Oper.wp
  rw [hrun']
  refine hn g _ _ (Rel.put_ ?_ hd (d := .one (.int .i64 ((min xs.length ys.length : Nat) : Int))) (hmin ▸ rfl) (by simp [D.ids, D0.ids, D0.ls, L.ids]))
  refine Rel.step hr (· = id) rfl (fun j h => h.1) ?_ ?_ ?_ ?_ ?_ ho1 ho2 ho3 (Nat.le_of_eq ho4.symm) ?_ ?_ ?_
  · intro j hj; exact ⟨upd_ne _ _ hj, rfl⟩
  · rintro j rfl _; exact .inr ⟨by simp only [upd_same, hb1, shO, hcopyl], rfl⟩
  · rintro j q rfl hq
    refine .inr ⟨j, rfl, ?_⟩
    simpa only [owned, upd_same, hb1] using hq
  · rintro i j q rfl rfl _ _; rfl
  · intro q _ hne; exact ho5 q (hne id rfl)
  · intro hk hc j hj
    subst hj
    simp only [upd_same]
    refine ⟨_, hcopy.mono fun x c h => En.mono hk h, ?_⟩
    rw [hcopyl, hcat]; exact hrow
  · intro j hj q hq0
    subst hj
    have hq1 : q ∈ (Ob.row E t (copyL xs ys)).kids := by simpa only [upd_same] using hq0
    cases hq1
  · intro j hf
    have := hr.fresh j hf.1
    have hne : j ≠ id := fun e => by rw [e, hb1] at this; cases this
    simp only [upd_ne _ _ hne]; exact this

theorem putAtL_len {α : Type} {xs zs : List α} {lo : Nat} (h : lo + zs.length ≤ xs.length) : (putAtL xs lo zs).length = xs.length := by
  unfold putAtL
  simp only [List.length_append, List.length_take, List.length_drop]
  omega

theorem putAtL_nil {α : Type} (xs : List α) (lo : Nat) : putAtL xs lo [] = xs := by simp [putAtL]

/-- Elements laid over some of a row of the call's own. -/
theorem row_put {E : Nat} {t : Ty} {xs zs : List t.den} {v : Value} {lo : Nat} {csz : List (List Value)} (h : RowO w ok E t xs v) (hz : All2 (En w ok t) zs csz) (hfit : lo + zs.length ≤ xs.length) :
    ∃ w', (w'.os = w.os ∧ w'.tape = w.tape ∧ w'.output = w.output ∧ w'.heap.size = w.heap.size ∧ ∀ q, blkOf v ≠ some q → w'.heap[q]? = w.heap[q]?) ∧
      (∀ ok', (∀ k, ok k → ok' k ∧ w'.heap[k]? = w.heap[k]?) → RowO w' ok' E t (putAtL xs lo zs) v) ∧
      ((zs = [] ∧ w' = w) ∨ (zs ≠ [] ∧ ∃ q oo cap cur, v = .slice (some ⟨q, oo, none⟩) xs.length cap ∧ w.heap[q]? = some (.cells cur E (0, 0)) ∧ oo + cap * t.sz ≤ cur.size ∧ xs.length ≤ cap ∧
        w' = w.setRow q (cur.toList.take (oo + lo * t.sz) ++ csz.flatten ++ cur.toList.drop (oo + lo * t.sz + csz.flatten.length)).toArray)) := by
  by_cases hzn : zs = []
  · subst hzn
    refine ⟨w, ⟨rfl, rfl, rfl, rfl, fun _ _ => rfl⟩, fun ok' hk => ?_, .inl ⟨rfl, rfl⟩⟩
    rw [putAtL_nil]
    exact RowO.mono hk (fun _ _ => rfl) h
  · obtain ⟨css, hcs, hlen, hos⟩ := h
    have hzp : 0 < zs.length := List.length_pos_iff.2 hzn
    rcases hos with ⟨_, h0⟩ | ⟨q, oo, cap, cur, rfl, hq, hh, hn, hml, hcur, htk⟩
    · omega
    have hcl : ∀ c ∈ css, c.length = t.sz := fun c hc => by obtain ⟨j, hj, rfl⟩ := List.getElem_of_mem hc; exact (hcs.get j (hcs.len ▸ hj) hj).len
    have hfz := flat_len (R := En w ok t) t.sz hz (fun _ _ h => h.len)
    have hm1 := Nat.mul_le_mul_right t.sz hfit
    rw [Nat.add_mul] at hm1
    have hm2 := Nat.mul_le_mul_right t.sz hn
    have hpl := putAtL_len hfit
    refine ⟨w.setRow q (cur.toList.take (oo + lo * t.sz) ++ csz.flatten ++ cur.toList.drop (oo + lo * t.sz + csz.flatten.length)).toArray, ⟨rfl, rfl, rfl, by simp [World.setRow], fun q' hne => setRow_other w q q' _ (fun e => hne (by rw [e]; rfl))⟩, fun ok' hk => ?_, .inr ⟨hzn, q, oo, cap, cur, rfl, hh, hcur, hn, rfl⟩⟩
    refine ⟨css.take lo ++ csz ++ css.drop (lo + zs.length), ?_, ?_⟩
    · unfold putAtL
      exact All2.mono (fun _ _ h => En.mono hk h) (((hcs.take lo).app hz).app (hcs.drop _))
    · have hflat : (css.take lo ++ csz ++ css.drop (lo + zs.length)).flatten = css.flatten.take (lo * t.sz) ++ csz.flatten ++ css.flatten.drop (lo * t.sz + csz.flatten.length) := by
        rw [List.flatten_append, List.flatten_append, take_flat css _ hcl, drop_flat css _ hcl, hfz, Nat.add_mul]
      rw [hpl, hflat]
      refine ⟨?_, .inr ⟨q, oo, cap, _, rfl, hq, setRow_heap w q cur _ _ _ hh, hn, hml, ?_, ?_⟩⟩
      · simp only [List.length_append, List.length_take, List.length_drop, hlen, hfz]
        omega
      · simp only [List.size_toArray, List.length_append, List.length_take, List.length_drop, Array.length_toList, hfz]
        omega
      · rw [List.toList_toArray, put_at cur.toList csz.flatten oo (lo * t.sz) (xs.length * t.sz) (by rw [hfz]; omega) (by rw [Array.length_toList]; exact Nat.le_trans (Nat.add_le_add_left hm2 oo) hcur), htk]

/-- An operation that lays elements over some of a row of the call's own. -/
theorem put_goal (hr : Rel B nt fr s g a w) (hd : dstOk nt o.dst = true) {id E : Nat} {t : Ty} {xs zs : List t.den} {lo : Nat} {csz : List (List Value)} (hb1 : s.H id = .row E t xs) (hz : All2 (En w (okB B g s.H w) t) zs csz) (hfit : lo + zs.length ≤ xs.length)
    {v0 : Value} {d : D} (hdv : ∀ g' H' w' ok', DR g' H' w' ok' d v0) (hdi : d.ids = [])
    (hrun : ∀ w', (zs = [] → w' = w) → (zs ≠ [] → ∃ q oo cap cur, g id = .slice (some ⟨q, oo, none⟩) xs.length cap ∧ w.heap[q]? = some (.cells cur E (0, 0)) ∧ oo + cap * t.sz ≤ cur.size ∧ xs.length ≤ cap ∧
      w' = w.setRow q (cur.toList.take (oo + lo * t.sz) ++ csz.flatten ++ cur.toList.drop (oo + lo * t.sz + csz.flatten.length)).toArray) → (execOp a.eval o).run P w = .ok (.value v0) w')
    (hv : k { s with H := upd s.H id (.row E t (putAtL xs lo zs)), dt := id :: s.dt } d = some r) : WGoal P B nt fr id0 s a w o k r := by
  have hob := hr.objs id
  rw [hb1] at hob
  obtain ⟨w', ⟨ho1, ho2, ho3, ho4, ho5⟩, hrow, hcase⟩ := row_put (show RowO w (okB B g s.H w) E t xs (g id) from hob) hz hfit
  have hownq : owned g s.H id = blkOf (g id) := by simp [owned, hb1]
  have hrun' := hrun w' (fun h => by rcases hcase with ⟨_, h'⟩ | ⟨h', _⟩; exact h'; exact absurd h h') (fun h => by rcases hcase with ⟨h', _⟩ | ⟨_, h'⟩; exact absurd h' h; exact h')
  refine ⟨_, _, hv, ⟨rfl, rfl, [id], rfl, fun j _ hj => upd_ne _ _ (by simpa using hj)⟩, fun next Q hn => ?_⟩
  unfold Oper.wp
  rw [hrun']
  refine hn g _ _ (Rel.put_ ?_ hd (hdv _ _ _ _) (by rw [hdi]; simp))
  refine Rel.step hr (· = id) rfl (fun j h => h.1) ?_ ?_ ?_ ?_ ?_ ho1 ho2 ho3 (Nat.le_of_eq ho4.symm) ?_ ?_ ?_
  · intro j hj; exact ⟨upd_ne _ _ hj, rfl⟩
  · rintro j rfl _; exact .inr ⟨by simp only [upd_same, hb1, shO, putAtL_len hfit], rfl⟩
  · rintro j q rfl hq
    refine .inr ⟨j, rfl, ?_⟩
    simpa only [owned, upd_same, hb1] using hq
  · rintro i j q rfl rfl _ _; rfl
  · intro q _ hne; exact ho5 q (by rw [← hownq]; exact hne id rfl)
  · intro hk hc j hj
    subst hj
    simp only [upd_same]
    exact hrow _ hk
  · intro j hj q hq0
    subst hj
    have hq1 : q ∈ (Ob.row E t (putAtL xs lo zs)).kids := by simpa only [upd_same] using hq0
    cases hq1
  · intro j hf
    have := hr.fresh j hf.1
    have hne : j ≠ id := fun e => by rw [e, hb1] at this; cases this
    simp only [upd_ne _ _ hne]; exact this

/-- Where a part of a row lies. -/
theorem zone_R (hhb : ∀ id, hb id = .gone ∨ hb id = s.H id) (hr : Rel B nt fr s g a w) {x : Operand} {l : L} (hx : evD s.e x = .one l) {id lo n : Nat} (hz : zoneOf hb l = some (id, lo, n)) {E : Nat} {t : Ty} {xs : List t.den} (hb0 : hb id = .row E t xs) :
    s.H id = .row E t xs ∧ lo + n ≤ xs.length ∧ ∃ A A' c, g id = .slice A xs.length c ∧ a.eval x = .slice A' n (c - lo) ∧ xs.length ≤ c ∧ ((A = none ∧ A' = none) ∨ ∃ ad ad', A = some ad ∧ A' = some ad' ∧ ((c = lo ∧ ∃ j, j ≤ lo ∧ ad' = ad.add (j * t.sz)) ∨ ad' = ad.add (lo * t.sz))) := by
  have hb1 : s.H id = .row E t xs := by rcases hhb id with e | e <;> rw [e] at hb0; cases hb0; exact hb0
  obtain ⟨a1, _⟩ := ev_R hr x
  rw [hx] at a1
  have hob := hr.objs id
  rw [hb1] at hob
  obtain ⟨A, c, hg, hc, _⟩ := RowO.slice_ (show RowO w (okB B g s.H w) E t xs (g id) from hob)
  have hsh : shO (s.H id) = some (false, t, xs.length) := by rw [hb1]; rfl
  have first : ∀ v : Value, v = .slice A n c → lo = 0 → ∃ A0 A' c', g id = .slice A0 xs.length c' ∧ v = .slice A' n (c' - lo) ∧ xs.length ≤ c' ∧ ((A0 = none ∧ A' = none) ∨ ∃ ad ad', A0 = some ad ∧ A' = some ad' ∧ ((c' = lo ∧ ∃ j, j ≤ lo ∧ ad' = ad.add (j * t.sz)) ∨ ad' = ad.add (lo * t.sz))) := by
    intro v hv h0
    subst h0
    refine ⟨A, A, c, hg, hv, hc, ?_⟩
    cases A with
    | none => exact .inl ⟨rfl, rfl⟩
    | some ad => exact .inr ⟨ad, ad, rfl, rfl, .inr (by simp [Addr.add])⟩
  cases l <;> simp only [zoneOf] at hz <;> try (cases hz; done)
  case own id' =>
    split at hz
    · rename_i E' t' xs' hb'
      cases hz
      rw [hb'] at hb0; cases hb0
      exact ⟨hb1, by omega, first _ ((a1.2 t xs.length hsh).trans hg) rfl⟩
    · cases hz
  case cut id' n' =>
    cases hz
    obtain ⟨hn, A1, c1, h1, h2⟩ := a1.2 t xs.length hsh
    rw [hg] at h1; cases h1
    exact ⟨hb1, by omega, first _ h2 rfl⟩
  case vi id' lo' hi' =>
    cases hz
    obtain ⟨hn, A1, A', c1, h1, h2, h3⟩ := a1.2 t xs.length hsh
    rw [hg] at h1; cases h1
    exact ⟨hb1, by omega, A, A', c, hg, h2, hc, h3⟩

theorem w_copyZ (hhb : ∀ id, hb id = .gone ∨ hb id = s.H id) (hr : Rel B nt fr s g a w) (hd : dstOk nt o.dst = true) {T T' e : TypeId} {x y : Operand} (ho : o.op = .call { callee := .builtin .copy, args := #[x, y], argTypes := #[T, T'] })
    {l b : L} (hx : evD s.e x = .one l) (hy : evD s.e y = .one b) (hT : P.underlying T = some (.slice e)) {ti : TI} (hti : tinfo P e = some ti) {id lo n : Nat} (hzo : zoneOf hb l = some (id, lo, n)) {E : Nat} {t : Ty} {xs ys : List t.den} (hb0 : hb id = .row E t xs) (h2 : ti.size = t.sz) (h3 : 0 < t.sz) (hs : srcOf t hb b = some ys)
    (hv : k { s with H := upd s.H id (.row E t (putAtL xs lo (ys.take n))), dt := id :: s.dt } (.one (.int .i64 ((min n ys.length : Nat) : Int))) = some r) : WGoal P B nt fr id0 s a w o k r := by
  obtain ⟨hb1, hle, A, A', c, hg, hxv, hc, hA⟩ := zone_R hhb hr hx hzo hb0
  obtain ⟨A2, c2, csy, hvy, hcy, hcell⟩ := srcOf_R hhb hr hy hs
  have hm : min ys.length n ≤ ys.length := Nat.min_le_left _ _
  obtain ⟨hfirst, hff⟩ := first_run (P := P) (c := c2) hcy hcell (min ys.length n) hm
  have htk : ys.take n = ys.take (min ys.length n) := by
    by_cases h : ys.length ≤ n
    · rw [Nat.min_eq_left h, List.take_of_length_le h, List.take_of_length_le (Nat.le_refl _)]
    · rw [Nat.min_eq_right (by omega)]
  have hzl : (ys.take n).length = min ys.length n := by rw [htk, List.length_take, Nat.min_eq_left hm]
  refine put_goal (zs := ys.take n) (csz := csy.take (min ys.length n)) (v0 := .int .i64 ((min n ys.length : Nat) : Int)) (d := .one (.int .i64 ((min n ys.length : Nat) : Int))) hr hd hb1 (by rw [htk]; exact hcy.take _) (by rw [hzl]; omega) (fun _ _ _ _ => rfl) rfl (fun w' h1 h2' => ?_) hv
  have hmin : goInt ((min ys.length n : Nat) : Int) = .int .i64 ((min n ys.length : Nat) : Int) := by
    show Value.int .i64 _ = _
    rw [Nat.min_comm]
  have hmm : Nat.min ys.length n = min ys.length n := rfl
  have hcp : (Builtin.copy_ #[T, T'] o.type #[a.eval x, a.eval y]).run P w = .ok (goInt ((min ys.length n : Nat) : Int)) w' := by
    rw [hxv, hvy]
    by_cases hz : ys.take n = []
    · have hm0 : min ys.length n = 0 := by rw [← hzl, hz]; rfl
      rw [h1 hz]
      have hfe : (csy.take (min ys.length n)).flatten = [] := by rw [hm0]; rfl
      rw [hfe] at hfirst
      cases A' with
      | none => simp [Builtin.copy_, Builtin.lenOf, run_underlying hT, run_sizeOf hti, h2, hmm, hfirst]
      | some ad => simp [Builtin.copy_, Builtin.lenOf, run_underlying hT, run_sizeOf hti, h2, hmm, hfirst, storeCells]
    · obtain ⟨q, oo, cap, cur, hgq, hh, hcur, hn, rfl⟩ := h2' hz
      rw [hg] at hgq
      cases hgq
      have hpos : 0 < (ys.take n).length := List.length_pos_iff.2 hz
      have hA' : A' = some ⟨q, oo + lo * t.sz, none⟩ := by
        rcases hA with ⟨h, _⟩ | ⟨ad, ad', e1, e2, e3⟩
        · cases h
        · cases e1
          rw [e2]
          rcases e3 with ⟨h, _⟩ | h
          · omega
          · rw [h, add_at]
      have hfz := flat_len (R := En w (okB B g s.H w) t) t.sz (hcy.take (min ys.length n)) (fun _ _ h => h.len)
      have hfz' : (csy.take (min ys.length n)).flatten.length = (min ys.length n) * t.sz := by rw [hfz, List.length_take, Nat.min_eq_left hm]
      have hst := run_storeCells_at (P := P) q (oo + lo * t.sz) E (csy.take (min ys.length n)).flatten 0 cur w hh (by
        have m1 := Nat.mul_le_mul_right t.sz (show lo + min ys.length n ≤ c by omega)
        rw [Nat.add_mul] at m1
        rw [hfz']; omega) (All2_one (hcy.take _))
      simp only [Nat.add_zero] at hst
      rw [hA']
      simp [Builtin.copy_, Builtin.lenOf, run_underlying hT, run_sizeOf hti, h2, hmm, hfirst, hst]
  rw [← hmin]
  simp [execOp, ho, resolve, invoke, builtin, hcp]

theorem zero_flat (q : List Value) (sz : Nat) (hq : q.length = sz) (hpos : 0 < sz) (n : Nat) : ∀ i, i < n * sz → (List.replicate n q).flatten[i]? = q[i % sz]? := by
  induction n with
  | zero => intro i hi; simp at hi
  | succ n ih =>
    intro i hi
    rw [List.replicate_succ, List.flatten_cons]
    by_cases hlt : i < q.length
    · rw [List.getElem?_append_left hlt, Nat.mod_eq_of_lt (hq ▸ hlt)]
    · rw [List.getElem?_append_right (by omega), ih (i - q.length) (by rw [Nat.add_mul] at hi; omega), hq, ← Nat.mod_eq_sub_mod (by omega)]

theorem zeroCells_eq (q : Array Value) (sz : Nat) (hq : q.size = sz) (hpos : 0 < sz) (n : Nat) : (Builtin.zeroCells q n).toList = (List.replicate n q.toList).flatten := by
  have hl : (Builtin.zeroCells q n).toList.length = n * sz := by rw [Array.length_toList, size_zeroCells, hq]
  have hl2 : (List.replicate n q.toList).flatten.length = n * sz := by simp [hq]
  apply List.ext_getElem?
  intro i
  by_cases hi : i < n * sz
  · rw [zero_flat q.toList sz (by rw [Array.length_toList, hq]) hpos n i hi]
    have hmod : i % sz < q.size := by rw [hq]; exact Nat.mod_lt _ hpos
    rw [List.getElem?_eq_getElem (by rw [hl]; exact hi), List.getElem?_eq_getElem (by rw [Array.length_toList]; exact hmod)]
    simp [Builtin.zeroCells, hq]
    exact getElem!_pos q _ hmod
  · rw [List.getElem?_eq_none (by omega), List.getElem?_eq_none (by omega)]

theorem w_clear (hhb : ∀ id, hb id = .gone ∨ hb id = s.H id) (hr : Rel B nt fr s g a w) (hd : dstOk nt o.dst = true) {T e : TypeId} {x : Operand} (ho : o.op = .call { callee := .builtin .clear, args := #[x], argTypes := #[T] })
    {l : L} (hx : evD s.e x = .one l) (hT : P.underlying T = some (.slice e)) {ti : TI} (hti : tinfo P e = some ti) {id lo n : Nat} (hzo : zoneOf hb l = some (id, lo, n)) {E : Nat} {t : Ty} {xs : List t.den} (hb0 : hb id = .row E t xs) {zl : List L} (hz : lits ti.zero.cells.toList = some zl) {z : t.den} (hp : pjAll (fun _ => .no) t zl = some (z, []))
    (h2 : ti.size = t.sz) (h3 : 0 < t.sz)
    (hv : k { s with H := upd s.H id (.row E t (putAtL xs lo (List.replicate n z))), dt := id :: s.dt } (.tup []) = some r) : WGoal P B nt fr id0 s a w o k r := by
  obtain ⟨hb1, hle, A, A', c, hg, hxv, hc, hA⟩ := zone_R hhb hr hx hzo hb0
  obtain ⟨z1, z2⟩ := lits_LR (g := g) (H := fun _ => .gone) (w := w) (ok := fun _ => False) hz
  have hen : En w (fun _ => False) t z ti.zero.cells.toList := pjAll_En (H := fun _ => .gone) (ok' := fun _ => False) (by intro _ _ _ _ h; cases h) (fun _ => trivial) (fun _ h => h) hp z1 (by simp)
  have hcs : ti.zero.cells.size = t.sz := by rw [← Array.length_toList]; exact hen.len
  have hzc := zeroCells_eq ti.zero.cells t.sz hcs h3 n
  have hall : All2 (En w (okB B g s.H w) t) (List.replicate n z) (List.replicate n ti.zero.cells.toList) := All2.of_get (by simp) fun i hi hi' => by
    simp only [List.getElem_replicate]
    exact En.mono (fun k hk => hk.elim) hen
  refine put_goal (zs := List.replicate n z) (csz := List.replicate n ti.zero.cells.toList) (v0 := .tuple #[]) (d := .tup []) hr hd hb1 hall (by rw [List.length_replicate]; exact hle) (fun _ _ _ _ => ⟨#[], rfl, trivial⟩) rfl (fun w' h1 h2' => ?_) hv
  have hcp : (Builtin.clear_ #[T] o.type #[a.eval x]).run P w = .ok (.tuple #[]) w' := by
    rw [hxv]
    cases n with
    | zero =>
      rw [h1 rfl]
      cases A' with
      | none => simp [Builtin.clear_, run_underlying hT]
      | some ad => simp [Builtin.clear_, run_underlying hT]
    | succ n =>
      obtain ⟨q, oo, cap, cur, hgq, hh, hcur, hn, rfl⟩ := h2' (by simp [List.replicate_succ])
      rw [hg] at hgq
      cases hgq
      have hA' : A' = some ⟨q, oo + lo * t.sz, none⟩ := by
        rcases hA with ⟨h, _⟩ | ⟨ad, ad', e1, e2, e3⟩
        · cases h
        · cases e1
          rw [e2]
          rcases e3 with ⟨h, _⟩ | h
          · omega
          · rw [h, add_at]
      have hfz := flat_len (R := En w (okB B g s.H w) t) t.sz hall (fun _ _ h => h.len)
      rw [List.length_replicate] at hfz
      have hst := run_storeCells_at (P := P) q (oo + lo * t.sz) E (List.replicate (n + 1) ti.zero.cells.toList).flatten 0 cur w hh (by
        have m1 := Nat.mul_le_mul_right t.sz (show lo + (n + 1) ≤ c by omega)
        rw [Nat.add_mul] at m1
        rw [hfz]; omega) (All2_one hall)
      simp only [Nat.add_zero] at hst
      rw [← hzc] at hst
      rw [hA', ← hzc]
      simp [Builtin.clear_, run_underlying hT, run_zeroV hti, hst]
  simp [execOp, ho, resolve, invoke, builtin, hcp]

/-- An append of some of a row to the head of the same row: it lies where it lay. -/
theorem w_appIn (hhb : ∀ id, hb id = .gone ∨ hb id = s.H id) (hr : Rel B nt fr s g a w) (hfr : ∀ j, id0 ≤ j → j < id0 + 8 → fr j) (hd : dstOk nt o.dst = true) {T e : TypeId} {x y : Operand} (ho : o.op = .call { callee := .builtin .append, args := #[x, y], argTypes := #[T, T] })
    {id n : Nat} {b : L} (hx : evD s.e x = .one (.cut id n)) (hy : evD s.e y = .one b) (hT : P.underlying T = some (.slice e)) {ti : TI} (hti : tinfo P e = some ti) {t : Ty} (h2 : ti.size = t.sz) (h3 : 0 < t.sz) {xs ys : List t.den} (hs : srcOf t hb b = some ys)
    (hb0 : hb id = .row e t xs) (hfit : n + ys.length ≤ xs.length)
    (hv : k { s with H := upd (upd s.H id .gone) id0 (.row e t (putAtL xs n ys)), dt := id :: s.dt } (.one (.cut id0 (n + ys.length))) = some r) : WGoal P B nt fr id0 s a w o k r := by
  have hb1 : s.H id = .row e t xs := by rcases hhb id with e | e <;> rw [e] at hb0; cases hb0; exact hb0
  have hgone : s.H id0 = .gone := hr.fresh id0 (hfr id0 (Nat.le_refl _) (by omega))
  have hne : id ≠ id0 := fun e => by rw [e, hgone] at hb1; cases hb1
  obtain ⟨hx1, hxi⟩ := ev_R hr x
  rw [hx] at hx1 hxi
  obtain ⟨hn, A1, c1, hg, hxv⟩ := hx1.2 t xs.length (by rw [hb1]; rfl)
  obtain ⟨A2, c2, csy, hvy, hcy, hcell⟩ := srcOf_R hhb hr hy hs
  have hob := hr.objs id
  rw [hb1] at hob
  have hob2 : RowO w (okB B g s.H w) e t xs (g id) := hob
  obtain ⟨A3, c3, hg3, hc3, _⟩ := RowO.slice_ hob2
  rw [hg] at hg3; cases hg3
  obtain ⟨w', ⟨ho1, ho2, ho3, ho4, ho5⟩, hrow, hcase⟩ := row_put (lo := n) hob2 hcy hfit
  obtain ⟨hfirst, hff⟩ := first_run (P := P) (c := c2) hcy hcell ys.length (Nat.le_refl _)
  rw [List.take_of_length_le (Nat.le_of_eq hcy.len.symm)] at hfirst
  have hroom : n + ys.length ≤ c1 := Nat.le_trans hfit hc3
  have hrun : (Builtin.append_ #[T, T] o.type #[a.eval x, a.eval y]).run P w = .ok (.slice A1 (n + ys.length) c1) w' := by
    rw [hxv, hvy]
    rcases hcase with ⟨hz, rfl⟩ | ⟨hz, q, oo, cap, cur, hgq, hh, hcur, hn', rfl⟩
    · subst hz
      have hcs : csy = [] := All2.nil_l hcy
      subst hcs
      simp only [List.length_nil, List.flatten_nil] at hfirst
      have hn1 : n ≤ c1 := by omega
      cases A1 with
      | none => simp [Builtin.append_, run_underlying hT, run_sizeOf hti, Builtin.lenOf, h2, hfirst, hn1]
      | some ad => simp [Builtin.append_, run_underlying hT, run_sizeOf hti, Builtin.lenOf, h2, hfirst, hn1, storeCells]
    · rw [hg] at hgq
      cases hgq
      have hfz := flat_len (R := En w (okB B g s.H w) t) t.sz hcy (fun _ _ h => h.len)
      have hst := run_storeCells_at (P := P) q (oo + n * t.sz) e csy.flatten 0 cur w hh (by
        have m1 := Nat.mul_le_mul_right t.sz hroom
        rw [Nat.add_mul] at m1
        rw [hfz]; omega) (All2_one hcy)
      simp only [Nat.add_zero] at hst
      simp [Builtin.append_, run_underlying hT, run_sizeOf hti, Builtin.lenOf, h2, hfirst, hroom, add_at, hst]
  have hlen := putAtL_len hfit
  have hext : WExt id0 s { s with H := upd (upd s.H id .gone) id0 (.row e t (putAtL xs n ys)), dt := id :: s.dt } :=
    ⟨rfl, rfl, [id], rfl, fun j hj hn => by show upd (upd s.H id .gone) id0 _ j = _; rw [upd_ne _ _ (by omega), upd_ne _ _ (by simpa using hn)]⟩
  refine ⟨_, _, hv, hext, fun next Q hn => ?_⟩
  have hrun' := app_run (P := P) ho rfl rfl hrun
  unfold Oper.wp
  rw [hrun']
  have H0 : ∀ j, j ≠ id0 → j ≠ id → upd (upd s.H id .gone) id0 (.row e t (putAtL xs n ys)) j = s.H j := fun j h1 h2 => by rw [upd_ne _ _ h1, upd_ne _ _ h2]
  have H1 : upd (upd s.H id .gone) id0 (.row e t (putAtL xs n ys)) id = .gone := by rw [upd_ne _ _ hne, upd_same]
  have H2 : upd (upd s.H id .gone) id0 (.row e t (putAtL xs n ys)) id0 = .row e t (putAtL xs n ys) := upd_same _ _ _
  have hownq : owned g s.H id = blkOf (g id) := by simp [owned, hb1]
  have own' : ∀ j q, (j = id0 ∨ j = id) → owned (upd g id0 (g id)) (upd (upd s.H id .gone) id0 (.row e t (putAtL xs n ys))) j = some q → j = id0 ∧ blkOf (g id) = some q := by
    intro j q hj hq
    rcases hj with rfl | rfl
    · refine ⟨rfl, ?_⟩
      simpa only [owned, H2, upd_same] using hq
    · simp only [owned, H1] at hq; cases hq
  refine hn (upd g id0 (g id)) _ _ (Rel.put_ ?_ hd (d := .one (.cut id0 (n + ys.length))) ?_ ?_)
  · refine Rel.step hr (fun j => j = id0 ∨ j = id) rfl (fun j h => h.1) ?_ ?_ ?_ ?_ ?_ ho1 ho2 ho3 (Nat.le_of_eq ho4.symm) ?_ ?_ ?_
    · intro j hj
      exact ⟨H0 j (fun h => hj (.inl h)) (fun h => hj (.inr h)), upd_ne _ _ fun e => hj (.inl e)⟩
    · intro j hj hf
      have hj0 : j ≠ id0 := fun e => hf (e ▸ hfr id0 (Nat.le_refl _) (by omega))
      have hji : j = id := hj.resolve_left hj0
      left
      show shO (upd (upd s.H id .gone) id0 _ j) = none
      rw [hji, H1]; rfl
    · intro j q hj hq
      obtain ⟨_, hq'⟩ := own' j q hj hq
      exact .inr ⟨id, .inr rfl, hownq.trans hq'⟩
    · intro i j q hi hj hiq hjq
      rw [(own' i q hi hiq).1, (own' j q hj hjq).1]
    · intro q hq hne'
      exact ho5 q fun e => hne' id (.inr rfl) (hownq.trans e)
    · intro hk hc j hj
      rcases hj with rfl | rfl
      · show OB _ _ _ _ _ (upd (upd s.H id .gone) j _ j)
        rw [H2]
        show RowO _ _ _ _ _ (upd g j (g id) j)
        rw [upd_same]
        exact hrow _ hk
      · show OB _ _ _ _ _ (upd (upd s.H j .gone) id0 _ j)
        rw [H1]; trivial
    · intro j hj q hq
      rcases hj with rfl | rfl
      · have hq' : q ∈ (upd (upd s.H id .gone) j (Ob.row e t (putAtL xs n ys)) j).kids := hq
        rw [H2] at hq'; cases hq'
      · have hq' : q ∈ (upd (upd s.H j .gone) id0 (Ob.row e t (putAtL xs n ys)) j).kids := hq
        rw [H1] at hq'; cases hq'
    · intro j hf
      have hj0 : j ≠ id0 := fun e => hf.2 ⟨by omega, by omega⟩
      show upd (upd s.H id .gone) id0 _ j = .gone
      by_cases hji : j = id
      · rw [hji, H1]
      · rw [H0 j hj0 hji]; exact hr.fresh j hf.1
  · refine ⟨rfl, fun t' m' hsh => ?_⟩
    have hsh' : shO (upd (upd s.H id .gone) id0 (Ob.row e t (putAtL xs n ys)) id0) = some (false, t', m') := hsh
    rw [H2] at hsh'
    simp only [shO, hlen, Option.some.injEq, Prod.mk.injEq, true_and] at hsh'
    obtain ⟨rfl, rfl⟩ := hsh'
    exact ⟨hfit, A1, c1, by rw [upd_same]; exact hg, rfl⟩
  · intro j hj hl'
    have : j = id0 := by simpa [D.ids, D0.ids, D0.ls, L.ids] using hj
    subst this
    exact hl'.2 ⟨Nat.le_refl _, by omega⟩

/-- An append of zeros to no row. -/
theorem w_appZero (hr : Rel B nt fr s g a w) (hfr : ∀ j, id0 ≤ j → j < id0 + 8 → fr j) (hd : dstOk nt o.dst = true) {T T' : TypeId} {x y : Operand} (ho : o.op = .call { callee := .builtin .append, args := #[x, y], argTypes := #[T, T'] })
    {l b : L} (hx : evD s.e x = .one l) (hy : evD s.e y = .one b) {ob : Ob} (hz : zRow P T T' l b = some ob)
    (hv : k { s with H := upd s.H id0 ob } (.one (.own id0)) = some r) : WGoal P B nt fr id0 s a w o k r := by
  obtain ⟨hx1, hxi⟩ := ev_R hr x
  rw [hx] at hx1 hxi
  obtain ⟨hy1, _⟩ := ev_R hr y
  rw [hy] at hy1
  unfold zRow at hz
  split at hz
  · rename_i kn n e kt hT hT'
    split at hz
    · rename_i ti t hti ht
      split at hz
      · rename_i zl hzl
        split at hz
        · rename_i z hp
          split at hz
          · rename_i hc
            obtain ⟨h2, h3, h4⟩ := hc
            split at hz
            · rename_i hn
              cases hz
              have vx : a.eval x = .slice none 0 0 := hx1
              have vy : a.eval y = .int kn n := hy1
              obtain ⟨hu, it, hit, hz', hsz, hby⟩ := tinfo_facts hti
              obtain ⟨z1, z2⟩ := lits_LR (g := g) (H := fun _ => .gone) (w := w) (ok := fun _ => False) hzl
              have hen : En w (fun _ => False) t z ti.zero.cells.toList := pjAll_En (H := fun _ => .gone) (ok' := fun _ => False) (by intro _ _ _ _ h; cases h) (fun _ => trivial) (fun _ h => h) hp z1 (by simp)
              have hcs : ti.zero.cells.size = t.sz := by rw [← Array.length_toList]; exact hen.len
              obtain ⟨m, rfl⟩ : ∃ m : Nat, n = (m : Int) := ⟨n.toNat, by omega⟩
              have hm0 : 0 < m := by omega
              have hmb : m ≤ maxBytes / ti.bytes := by omega
              have hmul : m * ti.bytes ≤ maxBytes := (Nat.le_div_iff_mul_le h4).1 hmb
              have hm : m ≤ maxBytes := Nat.le_trans (Nat.le_mul_of_pos_right _ h4) hmul
              have hrun0 := Lib.run_append_nil_zeros (P := P) w T T' o.type e it ti.zero kn kt hT hT' hit hz' m hm0 (by rw [hsz, h2]; exact h3) (by unfold maxBytes at hm; omega) (by rw [hby]; unfold maxBytes at hmul; omega)
              have hgn : s.H id0 = .gone := hr.fresh id0 (hfr id0 (Nat.le_refl _) (by omega))
              have hge := grownCap_ge w m 0 e
              have hfl : (Builtin.zeroCells ti.zero.cells m).toList = (List.replicate m ti.zero.cells.toList).flatten := zeroCells_eq _ t.sz hcs h3 m
              have hflen : (List.replicate m ti.zero.cells.toList).flatten.length = m * t.sz := by simp [hcs]
              have hown : ownsR (w.drew.alloc (.cells (Builtin.zeroCells ti.zero.cells m ++ Builtin.zeroCells ti.zero.cells (grownCap w m 0 e - m)) e)) e t.sz (.slice (some ⟨w.heap.size, 0, none⟩) m (grownCap w m 0 e)) m (List.replicate m ti.zero.cells.toList).flatten := by
                refine ⟨hflen, .inr ⟨w.heap.size, 0, _, _, rfl, Nat.zero_le _, heap_alloc_new w.drew _, hge, grownCap_le_maxLen w m 0 e (by unfold maxBytes at hm; unfold maxLen; omega), ?_, ?_⟩⟩
                · simp only [Array.size_append, size_zeroCells, hcs, ← Nat.add_mul, Nat.zero_add]
                  exact Nat.mul_le_mul_right _ (by omega)
                · rw [List.drop_zero, Array.toList_append, hfl, ← hflen]
                  exact List.take_left
              have hall : ∀ ok' w', All2 (En w' ok' t) (List.replicate m z) (List.replicate m ti.zero.cells.toList) := fun ok' w' => All2.of_get (by simp) fun i hi hi' => by
                simp only [List.getElem_replicate]
                exact En.mono (fun k hk => hk.elim) hen
              refine ⟨_, _, hv, ⟨rfl, rfl, [], rfl, fun j hj _ => upd_ne _ _ (by omega)⟩, fun next Q hn => ?_⟩
              have hrun : (execOp a.eval o).run P w = .ok (.value (.slice (some ⟨w.heap.size, 0, none⟩) m (grownCap w m 0 e))) (w.drew.alloc (.cells (Builtin.zeroCells ti.zero.cells m ++ Builtin.zeroCells ti.zero.cells (grownCap w m 0 e - m)) e)) := by
                simp [execOp, ho, resolve, invoke, builtin, vx, vy, hrun0]
              unfold Oper.wp
              rw [hrun]
              have hold : ∀ q, q < w.heap.size → (w.drew.alloc (.cells (Builtin.zeroCells ti.zero.cells m ++ Builtin.zeroCells ti.zero.cells (grownCap w m 0 e - m)) e)).heap[q]? = w.heap[q]? := fun q hq => heap_alloc_old w.drew _ hq
              refine hn (upd g id0 (.slice (some ⟨w.heap.size, 0, none⟩) m (grownCap w m 0 e))) _ _ (Rel.put_ ?_ hd (d := .one (.own id0)) ?_ ?_)
              · refine Rel.step hr (· = id0) rfl (fun j h => h.1) ?_ ?_ ?_ ?_ ?_ rfl rfl rfl (by show w.heap.size ≤ (w.heap.push _).size; rw [Array.size_push]; omega) ?_ ?_ ?_
                · intro j hj; exact ⟨upd_ne _ _ hj, upd_ne _ _ hj⟩
                · rintro j rfl hf; exact absurd (hfr j (Nat.le_refl _) (by omega)) hf
                · rintro j q rfl hq
                  simp only [owned, upd_same, blkOf, Option.some.injEq] at hq
                  exact .inl (by omega)
                · rintro i j q rfl rfl _ _; rfl
                · intro q hq _; exact hold q hq
                · intro hk hc j hj
                  subst hj
                  simp only [upd_same]
                  show RowO _ _ _ _ _ (upd g j _ j)
                  rw [upd_same]
                  refine ⟨_, hall _ _, ?_⟩
                  rw [Int.toNat_natCast, List.length_replicate]
                  exact hown
                · intro j hj q hq0
                  subst hj
                  have hq1 : q ∈ (Ob.row e t (List.replicate ((m : Int)).toNat z)).kids := by simpa only [upd_same] using hq0
                  cases hq1
                · intro j hf
                  have hne : j ≠ id0 := fun e => hf.2 ⟨by omega, by omega⟩
                  simp only [upd_ne _ _ hne]; exact hr.fresh j hf.1
              · exact ⟨rfl, fun t' n' _ => (upd_same _ _ _).symm⟩
              · intro j hj hl'
                have : j = id0 := by simpa [D.ids, D0.ids, D0.ls, L.ids] using hj
                subst this
                exact hl'.2 ⟨Nat.le_refl _, by omega⟩
            · cases hz
          · cases hz
        · cases hz
      · cases hz
    · cases hz
  · cases hz

theorem wrK_copyZ {R : Type} (P : Program) (T : Nat → List Sp) (id0 : Nat) (hb : Nat → Ob) (args : Array Operand) (argTypes : Array TypeId) (l b : L) (s : S) (k : S → D → Option R) (hno : ∀ id, l ≠ .own id) :
    wrK P T id0 hb (.call { callee := .builtin .copy, args := args, argTypes := argTypes }) [.v (.one l), .v (.one b)] s k =
    match argTypes.toList, zoneOf hb l with
    | [T, _], some (id, lo, n) => match P.underlying T with
      | some (.slice e) => match tinfo P e, hb id with
        | some ti, .row E t xs => if ti.size = t.sz ∧ 0 < t.sz then (match srcOf t hb b with
          | some ys => k { s with H := upd s.H id (.row E t (putAtL xs lo (ys.take n))), dt := id :: s.dt } (.one (.int .i64 ((min n ys.length : Nat) : Int)))
          | none => none) else none
        | _, _ => none
      | _ => none
    | _, _ => none := by
  cases l <;> first | rfl | exact absurd rfl (hno _)

theorem wrK_sound {T : Nat → List Sp} (hT : ∀ f sp, sp ∈ T f → Sound P f sp) (hhb : ∀ id, hb id = .gone ∨ hb id = s.H id) (hr : Rel B nt fr s g a w) (hfr : ∀ j, id0 ≤ j → j < id0 + 8 → fr j) (hd : dstOk nt o.dst = true)
    (hv : wrK P T id0 hb o.op (o.op.operands.toList.map (evD s.e)) s k = some r) : WGoal P B nt fr id0 s a w o k r := by
  generalize ho : o.op = op at hv
  cases op with
  | store T0 x y =>
    simp only [Op.operands, List.map_cons, List.map_nil] at hv
    cases hx : evD s.e x with
    | tup q => rw [hx] at hv; simp only [wrK] at hv; cases hv
    | v d => cases d with
      | agg q => rw [hx] at hv; simp only [wrK] at hv; cases hv
      | one l =>
        rw [hx] at hv
        cases hy : evD s.e y with
        | tup q => rw [hy] at hv; simp only [wrK] at hv; cases hv
        | v d =>
          rw [hy] at hv
          simp only [wrK] at hv
          split at hv
          · cases hv
          · rename_i ti hti
            split at hv
            · rename_i hc
              obtain ⟨_, hsz, hso⟩ := hc
              split at hv
              · rename_i id off
                split at hv
                · rename_i T0' ls hb0
                  split at hv
                  · rename_i hfit
                    exact w_storeBox hhb hr hd ho hx hy hti hsz hso hb0 hfit hv
                  · cases hv
                · cases hv
              · rename_i id i off
                split at hv
                · rename_i E t xs hb0
                  split at hv
                  · rename_i x' ids hp
                    split at hv
                    · rename_i hfit
                      exact w_storeRow hhb hr hfr hd ho hx hy hti hsz hso hb0 hp hfit.1 hfit.2 hv
                    · cases hv
                  · cases hv
                · cases hv
              · cases hv
            · cases hv
  | call c =>
    obtain ⟨callee, args, tys⟩ := c
    cases callee with
    | invoke q m => simp only [wrK] at hv; cases hv
    | value f =>
      have hops : (Op.call { callee := .value f, args := args, argTypes := tys }).operands.toList = f :: args.toList := by
        simp [Op.operands, Call.operands]
      rw [hops, List.map_cons] at hv
      obtain ⟨ha1, ha2⟩ := args_R hr args.toList
      obtain ⟨hfv, hfi⟩ := ev_R hr f
      have harr : (args.map a.eval) = (args.toList.map a.eval).toArray := by
        apply Array.ext'
        simp only [Array.toList_map]
      cases hf : evD s.e f with
      | tup q => rw [hf] at hv; simp only [wrK] at hv; cases hv
      | v d => cases d with
        | agg q => rw [hf] at hv; simp only [wrK] at hv; cases hv
        | one l =>
          rw [hf] at hv hfv hfi
          cases l <;> first | (simp only [wrK] at hv; cases hv; done) | skip
          · rename_i gf
            simp only [wrK] at hv
            have vf : a.eval f = .func (.func gf) #[] #[] := hfv
            refine w_callK hhb hr hfr hd (gf := gf) (vs := args.toList.map a.eval) (fun hent => ?_) ha1 ha2 (hT gf) hv
            simp only [execOp, ho, resolve, vf, Deferred.ofValue, Sem.run_bind, Sem.run_pure, Result.andThen_ok, invoke, Array.empty_append, Array.append_empty, hent, harr]
          · rename_i id
            simp only [wrK] at hv
            split at hv
            · rename_i gf ls hcl
              have hc1 : s.H id = .clo gf ls := by rcases hhb id with e | e <;> rw [e] at hcl; cases hcl; exact hcl
              have hob := hr.objs id
              rw [hc1] at hob
              obtain ⟨caps, hg, hall⟩ := hob
              have vf : a.eval f = .func (.func gf) #[] caps := (hfv.2 .nil 0 (by rw [hc1]; rfl)).trans hg
              have hds : All2 (DR g s.H w (okB B g s.H w)) (args.toList.map (evD s.e) ++ ls.map D.one) (args.toList.map a.eval ++ caps.toList) := by
                refine ha1.app ?_
                have : ∀ {ls : List L} {cs : List Value}, All2 (LR g s.H w (okB B g s.H w)) ls cs → All2 (DR g s.H w (okB B g s.H w)) (ls.map D.one) cs := by
                  intro ls
                  induction ls with
                  | nil => intro cs h; rw [All2.nil_l h]; trivial
                  | cons l ls ih => intro cs h; obtain ⟨b, r, rfl, hb', hr'⟩ := h.cons_l; exact ⟨hb', ih hr'⟩
                exact this hall
              refine w_callK hhb hr hfr hd (gf := gf) (vs := args.toList.map a.eval ++ caps.toList) (fun hent => ?_) hds (fun d hd' j hj => ?_) (hT gf) hv
              · have : ((args.toList.map a.eval).toArray ++ caps) = (args.toList.map a.eval ++ caps.toList).toArray := by
                  apply Array.ext'; simp
                simp only [execOp, ho, resolve, vf, Deferred.ofValue, Sem.run_bind, Sem.run_pure, Result.andThen_ok, invoke, Array.empty_append, hent, harr, this]
              · rcases List.mem_append.1 hd' with h | h
                · exact ha2 d h j hj
                · obtain ⟨l, hl, rfl⟩ := List.mem_map.1 h
                  exact hr.kold id j (by rw [hc1]; exact List.mem_flatMap.2 ⟨l, hl, by simpa [D.ids, D0.ids, D0.ls] using hj⟩)
            · cases hv
    | builtin b =>
      cases b <;> first | (simp only [wrK] at hv; cases hv; done) | skip
      case copy =>
        simp only [Op.operands, Call.operands, Array.empty_append] at hv
        match hargs : args.toList with
        | [] => rw [hargs] at hv; simp only [List.map_nil, wrK] at hv; cases hv
        | [x] =>
          rw [hargs] at hv
          simp only [List.map_cons, List.map_nil] at hv
          generalize evD s.e x = dx at hv
          cases dx with
          | tup q => simp only [wrK] at hv; cases hv
          | v d => cases d with
            | agg q => simp only [wrK] at hv; cases hv
            | one l => cases l <;> (simp only [wrK] at hv; cases hv)
        | x :: y :: z :: rest =>
          rw [hargs] at hv
          simp only [List.map_cons] at hv
          generalize evD s.e x = dx at hv
          generalize evD s.e y = dy at hv
          cases dx with
          | tup q => simp only [wrK] at hv; cases hv
          | v d => cases d with
            | agg q => simp only [wrK] at hv; cases hv
            | one l =>
              cases dy with
              | tup q => cases l <;> (simp only [wrK] at hv; cases hv)
              | v d => cases d <;> cases l <;> (simp only [wrK] at hv; cases hv)
        | [x, y] =>
          rw [hargs] at hv
          have ha : args = #[x, y] := by apply Array.ext'; rw [hargs]
          subst ha
          simp only [List.map_cons, List.map_nil] at hv
          cases hx : evD s.e x with
          | tup q => rw [hx] at hv; simp only [wrK] at hv; cases hv
          | v d => cases d with
            | agg q => rw [hx] at hv; simp only [wrK] at hv; cases hv
            | one l =>
              rw [hx] at hv
              cases hy : evD s.e y with
              | tup q => rw [hy] at hv; cases l <;> (simp only [wrK] at hv; cases hv)
              | v d => cases d with
                | agg q => rw [hy] at hv; cases l <;> (simp only [wrK] at hv; cases hv)
                | one b =>
                  rw [hy] at hv
                  have other : (∀ id, l ≠ .own id) → wrK P T id0 hb (.call { callee := .builtin .copy, args := #[x, y], argTypes := tys }) [.v (.one l), .v (.one b)] s k = some r → WGoal P B nt fr id0 s a w o k r := by
                    intro hno hw
                    rw [wrK_copyZ _ _ _ _ _ _ _ _ _ _ hno] at hw
                    split at hw
                    · rename_i T1 T2 id lo n htys hzo
                      have ht : tys = #[T1, T2] := by apply Array.ext'; rw [htys]
                      subst ht
                      split at hw
                      · rename_i e hT0
                        split at hw
                        · rename_i ti E t xs hti hb0
                          split at hw
                          · rename_i hc
                            split at hw
                            · rename_i ys hs
                              exact w_copyZ hhb hr hd ho hx hy hT0 hti hzo hb0 hc.1 hc.2 hs hw
                            · cases hw
                          · cases hw
                        · cases hw
                      · cases hw
                    · cases hw
                  by_cases hown : ∃ id, l = .own id
                  · obtain ⟨id, rfl⟩ := hown
                    simp only [wrK] at hv
                    split at hv
                    · rename_i T1 T2 htys
                      have ht : tys = #[T1, T2] := by apply Array.ext'; rw [htys]
                      subst ht
                      split at hv
                      · rename_i e hT0
                        split at hv
                        · rename_i ti E t xs hti hb0
                          split at hv
                          · rename_i hc
                            split at hv
                            · rename_i ys hs
                              exact w_copy hhb hr hd ho hx hy hT0 hti hb0 hc.1 hc.2.1 hs hv
                            · cases hv
                          · cases hv
                        · cases hv
                      · cases hv
                    · cases hv
                  · exact other (fun id h => hown ⟨id, h⟩) hv
      case clear =>
        simp only [Op.operands, Call.operands, Array.empty_append] at hv
        match hargs : args.toList with
        | [] => rw [hargs] at hv; simp only [List.map_nil, wrK] at hv; cases hv
        | x :: y :: rest =>
          rw [hargs] at hv
          simp only [List.map_cons] at hv
          generalize evD s.e x = dx at hv
          cases dx with
          | tup q => simp only [wrK] at hv; cases hv
          | v d => cases d <;> (simp only [wrK] at hv; cases hv)
        | [x] =>
          rw [hargs] at hv
          have ha : args = #[x] := by apply Array.ext'; rw [hargs]
          subst ha
          simp only [List.map_cons, List.map_nil] at hv
          cases hx : evD s.e x with
          | tup q => rw [hx] at hv; simp only [wrK] at hv; cases hv
          | v d => cases d with
            | agg q => rw [hx] at hv; simp only [wrK] at hv; cases hv
            | one l =>
              rw [hx] at hv
              simp only [wrK] at hv
              split at hv
              · rename_i T1 id lo n htys hzo
                have ht : tys = #[T1] := by apply Array.ext'; rw [htys]
                subst ht
                split at hv
                · rename_i e hT0
                  split at hv
                  · rename_i ti E t xs hti hb0
                    split at hv
                    · rename_i zl hz
                      split at hv
                      · rename_i z hp
                        split at hv
                        · rename_i hc
                          exact w_clear hhb hr hd ho hx hT0 hti hzo hb0 hz hp hc.1 hc.2 hv
                        · cases hv
                      · cases hv
                    · cases hv
                  · cases hv
                · cases hv
              · cases hv
      simp only [Op.operands, Call.operands, Array.empty_append] at hv
      match hargs : args.toList with
      | [] => rw [hargs] at hv; simp only [List.map_nil, wrK] at hv; cases hv
      | [x] =>
        rw [hargs] at hv
        simp only [List.map_cons, List.map_nil] at hv
        cases hx : evD s.e x with
        | tup q => rw [hx] at hv; simp only [wrK] at hv; cases hv
        | v d => cases d <;> (rw [hx] at hv; simp only [wrK] at hv; cases hv)
      | x :: y :: z :: rest =>
        rw [hargs] at hv
        simp only [List.map_cons] at hv
        cases hx : evD s.e x with
        | tup q => rw [hx] at hv; simp only [wrK] at hv; cases hv
        | v d => cases d with
          | agg q => rw [hx] at hv; simp only [wrK] at hv; cases hv
          | one q =>
            rw [hx] at hv
            cases hy : evD s.e y with
            | tup q => rw [hy] at hv; simp only [wrK] at hv; cases hv
            | v d => cases d <;> (rw [hy] at hv; simp only [wrK] at hv; cases hv)
      | [x, y] =>
        rw [hargs] at hv
        have ha : args = #[x, y] := by apply Array.ext'; rw [hargs]
        subst ha
        simp only [List.map_cons, List.map_nil] at hv
        cases hx : evD s.e x with
        | tup q => rw [hx] at hv; simp only [wrK] at hv; cases hv
        | v d => cases d with
          | agg q => rw [hx] at hv; simp only [wrK] at hv; cases hv
          | one l =>
            rw [hx] at hv
            cases hy : evD s.e y with
            | tup q => rw [hy] at hv; simp only [wrK] at hv; cases hv
            | v d => cases d with
              | agg q => rw [hy] at hv; simp only [wrK] at hv; cases hv
              | one b =>
                rw [hy] at hv
                simp only [wrK] at hv
                split at hv
                · rename_i T1 T2 htys
                  have ht : tys = #[T1, T2] := by apply Array.ext'; rw [htys]
                  subst ht
                  split at hv
                  · rename_i hTT; subst hTT
                    split at hv
                    · rename_i e hT0
                      split at hv
                      · rename_i ti t hti ht
                        split at hv
                        · rename_i hc
                          obtain ⟨h2, h3, h4, h5⟩ := hc
                          split at hv
                          · cases hv
                          · rename_i ys hs
                            split at hv
                            · split at hv
                              · rename_i hlim
                                exact w_append (xs := []) (who := none) hhb hr hfr hd ho hx hy hT0 hti h2 h3 h4 h5 hs (.inl ⟨rfl, rfl, rfl, rfl, rfl⟩) (by simpa using hlim) hv
                              · cases hv
                            · rename_i id
                              split at hv
                              · rename_i E t0 xs hb0
                                split at hv
                                · rename_i ht0; subst ht0
                                  split at hv
                                  · rename_i hc
                                    obtain ⟨rfl, _⟩ := hc
                                    split at hv
                                    · rename_i hlim
                                      exact w_append (xs := xs) (who := some id) hhb hr hfr hd ho hx hy hT0 hti h2 h3 h4 h5 hs (.inr ⟨id, xs, rfl, .inl ⟨rfl, rfl⟩, hb0, rfl, rfl⟩) hlim hv
                                    · cases hv
                                  · cases hv
                                · cases hv
                              · cases hv
                            · rename_i id n
                              split at hv
                              · rename_i E t0 xs hb0
                                split at hv
                                · rename_i ht0; subst ht0
                                  cases hsv : sameVi b id with
                                  | true =>
                                    rw [hsv] at hv
                                    simp only [cond_true] at hv
                                    split at hv
                                    · rename_i hc
                                      obtain ⟨rfl, hn⟩ := hc
                                      exact w_appIn hhb hr hfr hd ho hx hy hT0 hti h2 h3 hs hb0 hn hv
                                    · cases hv
                                  | false =>
                                  rw [hsv] at hv
                                  simp only [cond_false] at hv
                                  split at hv
                                  · rename_i hc
                                    obtain ⟨rfl, _, hn⟩ := hc
                                    split at hv
                                    · rename_i hlim
                                      have hl : (xs.take n).length = n := by rw [List.length_take]; omega
                                      exact w_append (xs := xs.take n) (who := some id) hhb hr hfr hd ho hx hy hT0 hti h2 h3 h4 h5 hs (.inr ⟨id, xs, rfl, .inr (.inl ⟨n, rfl, rfl⟩), hb0, rfl, rfl⟩) (by rw [hl]; exact hlim) hv
                                    · cases hv
                                  · cases hv
                                · cases hv
                              · cases hv
                            · rename_i id lo hi
                              split at hv
                              · rename_i E t0 xs hb0
                                split at hv
                                · rename_i ht0; subst ht0
                                  split at hv
                                  · rename_i hc
                                    obtain ⟨rfl, _, hn1, hn2⟩ := hc
                                    split at hv
                                    · rename_i hlim
                                      have hl : ((xs.take hi).drop lo).length = hi - lo := by rw [List.length_drop, List.length_take, Nat.min_eq_left hn2]
                                      exact w_append (xs := (xs.take hi).drop lo) (who := some id) hhb hr hfr hd ho hx hy hT0 hti h2 h3 h4 h5 hs (.inr ⟨id, xs, rfl, .inr (.inr ⟨lo, hi, rfl, rfl⟩), hb0, rfl, rfl⟩) (by rw [hl]; exact hlim) hv
                                    · cases hv
                                  · cases hv
                                · cases hv
                              · cases hv
                            · cases hv
                        · cases hv
                      · cases hv
                    · cases hv
                  · split at hv
                    · rename_i z hz
                      split at hv
                      · rename_i hc
                        exact w_appZero (ob := z.2.2) hr hfr hd ho hx hy (by rw [zRow_eq, hz, Option.bind_some, if_pos hc]) hv
                      · cases hv
                    · cases hv
                · cases hv
  | _ => simp only [wrK] at hv; cases hv

end
end Go.Proofs.Fr

/- A form of each operation without what comes behind it. -/
namespace Go.Proofs.Fr
open Go Go.RowKit
variable {R : Type}

theorem pickD_nat (x : Bool) (a b : D) (k : D → Option R) : pickD x a b k = (pickD x a b some).bind k := by
  unfold pickD
  split <;> (try split) <;> rfl

theorem intBin_nat (op : BinOp) (kk : IntKind) (a b : Int) (k : L → Option R) : intBin op kk a b k = (intBin op kk a b some).bind k := by
  unfold intBin
  split <;> (try split) <;> rfl

theorem strBin_nat (op : BinOp) (a b : ByteArray) (k : L → Option R) : strBin op a b k = (strBin op a b some).bind k := by
  unfold strBin
  split <;> (try split) <;> rfl

theorem binK_nat (P : Program) (op : BinOp) (xT : TypeId) (x y : D) (k : L → Option R) : binK P op xT x y k = (binK P op xT x y some).bind k := by
  unfold binK
  split
  · split
    · split <;> rfl
    · split <;> rfl
    · split
      · exact intBin_nat _ _ _ _ _
      · rfl
  · exact strBin_nat _ _ _ _
  · split <;> rfl
  · split <;> (try split) <;> rfl
  · split <;> rfl
  · split <;> rfl
  · repeat' (first | rfl | split)
  · rfl

theorem unK_nat (op : UnOp) (x : D) (k : L → Option R) : unK op x k = (unK op x some).bind k := by
  unfold unK
  split <;> rfl

theorem convK_nat (P : Program) (src dst : TypeId) (vw : Nat → Vw) (x : D) (k : L → Option R) : convK P src dst vw x k = (convK P src dst vw x some).bind k := by
  unfold convK
  split
  · rfl
  · rfl
  · split
    · split <;> rfl
    · rfl
  · split
    · split <;> rfl
    · rfl
  · rfl

theorem cut3_nat (P : Program) (e : TypeId) (x : L) (l h : Int) (k : L → Option R) : cut3 P e x l h k = (cut3 P e x l h some).bind k := by
  unfold cut3
  split
  · split <;> rfl
  · rfl

abbrev Eo := D × List Ob × List Nat

theorem bind_comp {α β γ : Type} (x : Option α) (f : α → Option β) (k : β → Option γ) : (x.bind f).bind k = x.bind fun y => (f y).bind k := by cases x <;> rfl

theorem valK_nat (P : Program) (T : Nat → List Sp) (id0 : Nat) (vw : Nat → Vw) (op : Op) (ds : List D) (k : D → List Ob → List Nat → Option R) :
    valK P T id0 vw op ds k = (valK P T id0 vw op ds fun d o i => some ((d, o, i) : Eo)).bind fun r => k r.1 r.2.1 r.2.2 := by
  unfold valK
  split
  case h_3 => rw [pickD_nat (k := fun d => k d [] []), pickD_nat (k := fun d => some ((d, [], []) : Eo)), bind_comp]; rfl
  case h_10 => rw [binK_nat (k := fun l => k (.one l) [] []), binK_nat (k := fun l => some ((.one l, [], []) : Eo)), bind_comp]; rfl
  case h_11 => rw [unK_nat (k := fun l => k (.one l) [] []), unK_nat (k := fun l => some ((.one l, [], []) : Eo)), bind_comp]; rfl
  case h_12 => rw [convK_nat (k := fun l => k (.one l) [] []), convK_nat (k := fun l => some ((.one l, [], []) : Eo)), bind_comp]; rfl
  all_goals (try simp only [cond_eq_ite])
  all_goals (repeat' (first | rfl | split | (dsimp only; split)))
  all_goals (first | rfl | (rw [bind_comp]; rfl) | (rw [cut3_nat (k := fun y => k (.one y) [] []), cut3_nat (k := fun y => some ((.one y, [], []) : Eo)), bind_comp]; rfl) | (rw [splitN_eq _ (by omega), splitN_eq _ (by omega)]; repeat' (first | rfl | split | (dsimp only; split))))

theorem splitK_eq : ∀ (ks : List K) (y : dens ks), ∃ (ks' : List K) (z : dens ks'), ∀ {R : Type} (k : (ks : List K) → dens ks → Option R), splitK ks y k = k ks' z
  | [], y => ⟨[], (), fun _ => rfl⟩
  | q :: r, y => by
    obtain ⟨ks', z, h⟩ := splitK_eq r y.2
    cases q with
    | mb T c =>
      cases hy : y.1 with
      | none => exact ⟨.np :: ks', ((), z), fun k => by simp only [splitK, hy]; exact h _⟩
      | some v => exact ⟨.bx T c :: ks', (v, z), fun k => by simp only [splitK, hy]; exact h _⟩
    | _ => exact ⟨_ :: ks', (y.1, z), fun k => by simp only [splitK]; exact h _⟩

theorem callK_nat (id0 : Nat) (hb : Nat → Ob) (ds : List D) (s : S) (k : S → D → Option R) : ∀ sps, callK id0 hb ds s k sps = (callK id0 hb ds s (fun s d => some (s, d)) sps).bind fun r => k r.1 r.2
  | [] => rfl
  | sp :: r => by
    simp only [callK]
    split
    · exact callK_nat id0 hb ds s k r
    · rename_i x fro lent _
      cases lentOk fro lent
      · rfl
      · simp only [cond_true]
        cases sp.sem x with
        | none => rfl
        | some y =>
          simp only [Option.bind_some]
          obtain ⟨ks', z, he⟩ := splitK_eq (sp.outs ++ backs sp.ins) y
          rw [he, he]
          cases Nat.ble (nobP (retTg sp.outs.length (lentA hb sp.ins ds)) ks') 8 <;> rfl

theorem callK_e (id0 : Nat) (hb : Nat → Ob) (ds : List D) (s : S) (e : Nat → D) : ∀ sps, (callK id0 hb ds { s with e := e } (fun s d => some (s, d)) sps) = (callK id0 hb ds s (fun s d => some (s, d)) sps).map fun r => ({ r.1 with e := e }, r.2)
  | [] => rfl
  | sp :: r => by
    simp only [callK]
    split
    · exact callK_e id0 hb ds s e r
    · rename_i x fro lent _
      cases lentOk fro lent
      · rfl
      · simp only [cond_true]
        cases sp.sem x with
        | none => rfl
        | some y =>
          simp only [Option.bind_some]
          obtain ⟨ks', z, he⟩ := splitK_eq (sp.outs ++ backs sp.ins) y
          rw [he, he]
          cases Nat.ble (nobP (retTg sp.outs.length (lentA hb sp.ins ds)) ks') 8 <;> rfl

theorem callK_nx (id0 : Nat) (hb : Nat → Ob) (ds : List D) (s : S) (n : Nat) : ∀ sps, (callK id0 hb ds { s with nx := n } (fun s d => some (s, d)) sps) = (callK id0 hb ds s (fun s d => some (s, d)) sps).map fun r => ({ r.1 with nx := n }, r.2)
  | [] => rfl
  | sp :: r => by
    simp only [callK]
    split
    · exact callK_nx id0 hb ds s n r
    · rename_i x fro lent _
      cases lentOk fro lent
      · rfl
      · simp only [cond_true]
        cases sp.sem x with
        | none => rfl
        | some y =>
          simp only [Option.bind_some]
          obtain ⟨ks', z, he⟩ := splitK_eq (sp.outs ++ backs sp.ins) y
          rw [he, he]
          cases Nat.ble (nobP (retTg sp.outs.length (lentA hb sp.ins ds)) ks') 8 <;> rfl

theorem callK_same (id0 : Nat) (hb : Nat → Ob) (hhb : ∀ id, hb id = .gone ∨ True) (ds : List D) (s : S) {q : S × D} : ∀ sps, (callK id0 hb ds s (fun s d => some (s, d)) sps) = some q → q.1.e = s.e ∧ q.1.nx = s.nx
  | [], h => by simp only [callK] at h; cases h
  | sp :: r, h => by
    simp only [callK] at h
    split at h
    · exact callK_same id0 hb hhb ds s r h
    · rename_i x fro lent _
      cases hc : lentOk fro lent
      · rw [hc] at h; cases h
      · rw [hc] at h
        simp only [cond_true] at h
        cases hy : sp.sem x with
        | none => rw [hy] at h; cases h
        | some y =>
          rw [hy] at h
          simp only [Option.bind_some] at h
          obtain ⟨ks', z, he⟩ := splitK_eq (sp.outs ++ backs sp.ins) y
          rw [he] at h
          cases h8 : Nat.ble (nobP (retTg sp.outs.length (lentA hb sp.ins ds)) ks') 8
          · rw [h8] at h; cases h
          · rw [h8] at h; cases h; exact ⟨rfl, rfl⟩

theorem wrK_nat (P : Program) (T : Nat → List Sp) (id0 : Nat) (hb : Nat → Ob) (op : Op) (ds : List D) (s : S) (k : S → D → Option R) :
    wrK P T id0 hb op ds s k = (wrK P T id0 hb op ds s fun s d => some (s, d)).bind fun r => k r.1 r.2 := by
  unfold wrK
  split
  case h_6 =>
    split
    · exact callK_nat _ _ _ _ _ _
    · split
      · exact callK_nat _ _ _ _ _ _
      · rfl
    · rfl
  all_goals (try simp only [cond_eq_ite])
  all_goals repeat' (first | rfl | split | (dsimp only; split))

/-- What a write does with a state that is put together otherwise. -/
theorem wrK_e (P : Program) (T : Nat → List Sp) (id0 : Nat) (hb : Nat → Ob) (op : Op) (ds : List D) (s : S) (e : Nat → D) :
    (wrK P T id0 hb op ds { s with e := e } fun s d => some (s, d)) = (wrK P T id0 hb op ds s fun s d => some (s, d)).map fun r => ({ r.1 with e := e }, r.2) := by
  unfold wrK
  split
  case h_6 =>
    split
    · exact callK_e _ _ _ _ _ _
    · split
      · exact callK_e _ _ _ _ _ _
      · rfl
    · rfl
  all_goals (try simp only [cond_eq_ite])
  all_goals repeat' (first | rfl | split | (dsimp only; split))

theorem wrK_nx (P : Program) (T : Nat → List Sp) (id0 : Nat) (hb : Nat → Ob) (op : Op) (ds : List D) (s : S) (n : Nat) :
    (wrK P T id0 hb op ds { s with nx := n } fun s d => some (s, d)) = (wrK P T id0 hb op ds s fun s d => some (s, d)).map fun r => ({ r.1 with nx := n }, r.2) := by
  unfold wrK
  split
  case h_6 =>
    split
    · exact callK_nx _ _ _ _ _ _
    · split
      · exact callK_nx _ _ _ _ _ _
      · rfl
    · rfl
  all_goals (try simp only [cond_eq_ite])
  all_goals repeat' (first | rfl | split | (dsimp only; split))

theorem wrK_same (P : Program) (T : Nat → List Sp) (id0 : Nat) (hb : Nat → Ob) (op : Op) (ds : List D) (s : S) {r : S × D} (h : (wrK P T id0 hb op ds s fun s d => some (s, d)) = some r) : r.1.e = s.e ∧ r.1.nx = s.nx := by
  unfold wrK at h
  split at h
  case h_6 =>
    split at h
    · exact callK_same id0 hb (fun _ => .inr trivial) _ _ _ h
    · split at h
      · exact callK_same id0 hb (fun _ => .inr trivial) _ _ _ h
      · cases h
    · cases h
  all_goals (try simp only [cond_eq_ite] at h)
  all_goals repeat' (first | (cases h; first | exact ⟨rfl, rfl⟩ | done) | split at h | (dsimp only at h; split at h))


theorem pj_drop {vw : Nat → Vw} : ∀ {t : Ty} {ls r : List L} {x : t.den} {ids : List Nat}, pj vw t ls = some (x, r, ids) → r = ls.drop t.sz
  | .int k, ls, r, x, ids, h => by
    simp only [pj] at h
    split at h
    · split at h
      · cases h; rfl
      · cases h
    · cases h
  | .bool, ls, r, x, ids, h => by
    simp only [pj] at h
    split at h
    · cases h; rfl
    · cases h
  | .str, ls, r, x, ids, h => by
    simp only [pj] at h
    split at h
    · cases h; rfl
    · cases h
  | .sl E t, ls, r, x, ids, h => by
    simp only [pj] at h
    split at h
    · split at h
      · split at h
        · cases h; rfl
        · cases h
      · cases h
    · cases h; rfl
    · split at h
      · split at h
        · split at h
          · cases h; rfl
          · cases h
        · cases h
      · cases h
    · split at h
      · split at h
        · split at h
          · cases h; rfl
          · cases h
        · cases h
      · cases h
    · split at h
      · split at h
        · split at h
          · cases h; rfl
          · cases h
        · cases h
      · cases h
    · cases h
  | .nil, ls, r, x, ids, h => by
    simp only [pj] at h
    cases h; rfl
  | .cons a b, ls, r, x, ids, h => by
    simp only [pj] at h
    split at h
    · rename_i x1 r1 i1 h1
      split at h
      · rename_i y r2 i2 h2
        cases h
        rw [pj_drop h2, pj_drop h1, List.drop_drop]; rfl
      · cases h
    · cases h

theorem pkC_drop {H : Nat → Ob} : ∀ {k : K} {ls r : List L} {x : k.den} {fro lent : List Nat}, pkC H k ls = some (x, r, fro, lent) → r = ls.drop k.sz ∧ ∀ id ∈ lentC H k ls, id ∈ lent := by
  intro k
  induction k with
  | v t =>
    intro ls r x fro lent h
    simp only [pkC] at h
    split at h
    · rename_i hp; cases h; exact ⟨pj_drop hp, by simp [lentC]⟩
    · cases h
  | own E t =>
    intro ls r x fro lent h
    simp only [pkC] at h
    split at h
    · cases h; exact ⟨rfl, by simp [lentC]⟩
    · split at h
      · split at h
        · split at h
          · cases h; exact ⟨rfl, by simp [lentC]⟩
          · cases h
        · cases h
      · cases h
    · split at h
      · split at h
        · split at h
          · cases h; exact ⟨rfl, by simp [lentC]⟩
          · cases h
        · cases h
      · cases h
    · split at h
      · split at h
        · split at h
          · cases h; exact ⟨rfl, by simp [lentC]⟩
          · cases h
        · cases h
      · cases h
    · cases h
  | io E t =>
    intro ls r x fro lent h
    simp only [pkC] at h
    split at h
    · split at h
      · split at h
        · split at h
          · cases h; exact ⟨rfl, by simp [lentC]⟩
          · cases h
        · cases h
      · cases h
    · cases h
  | bx T c ih =>
    intro ls r x fro lent h
    simp only [pkC] at h
    split at h
    · split at h
      · split at h
        · split at h
          · cases h; exact ⟨rfl, by simp [lentC]⟩
          · cases h
        · cases h
      · cases h
    · cases h
  | fn f c ih =>
    intro ls r x fro lent h
    simp only [pkC] at h
    split at h
    · split at h
      · split at h
        · cases h; exact ⟨rfl, by simp [lentC]⟩
        · cases h
      · cases h
    · rename_i id q'
      split at h
      · rename_i f' ls' hH
        split at h
        · split at h
          · rename_i hp
            cases h
            refine ⟨rfl, fun j hj => (ih hp).2 j ?_⟩
            simpa only [lentC, hH] using hj
          · cases h
        · cases h
      · cases h
    · cases h
  | np =>
    intro ls r x fro lent h
    simp only [pkC] at h
    split at h
    · cases h; exact ⟨rfl, by simp [lentC]⟩
    · cases h
  | nl =>
    intro ls r x fro lent h
    simp only [pkC] at h
    split at h
    · cases h; exact ⟨rfl, by simp [lentC]⟩
    · cases h
  | mb T c ih =>
    intro ls r x fro lent h
    simp only [pkC] at h
    split at h
    · cases h; exact ⟨rfl, by simp [lentC]⟩
    · split at h
      · split at h
        · split at h
          · cases h; exact ⟨rfl, by simp [lentC]⟩
          · cases h
        · cases h
      · cases h
    · cases h
  | nil =>
    intro ls r x fro lent h
    simp only [pkC] at h
    cases h; exact ⟨rfl, by simp [lentC]⟩
  | cons a b iha ihb =>
    intro ls r x fro lent h
    simp only [pkC] at h
    split at h
    · rename_i x1 r1 f1 l1 h1
      split at h
      · rename_i y r2 f2 l2 h2
        cases h
        obtain ⟨e1, p1⟩ := iha h1
        obtain ⟨e2, p2⟩ := ihb h2
        refine ⟨by rw [e2, e1, List.drop_drop]; rfl, fun id hid => ?_⟩
        simp only [lentC] at hid
        rcases List.mem_append.1 hid with h | h
        · exact List.mem_append.2 (.inl (p1 id h))
        · exact List.mem_append.2 (.inr (p2 id (by rw [e1]; exact h)))
      · cases h
    · cases h

theorem pkA_lent {H : Nat → Ob} : ∀ {ks : List K} {ds : List D} {x : dens ks} {fro lent : List Nat}, pkA H ks ds = some (x, fro, lent) → ∀ id ∈ lentA H ks ds, id ∈ lent
  | [], ds, x, fro, lent, h, id, hid => by simp [lentA] at hid
  | k :: r, ds, x, fro, lent, h, id, hid => by
    simp only [pkA] at h
    split at h
    · split at h
      · split at h
        · rename_i h1
          split at h
          · rename_i h2
            cases h
            simp only [lentA] at hid
            rcases List.mem_append.1 hid with hid | hid
            · exact List.mem_append.2 (.inl ((pkC_drop h1).2 id hid))
            · exact List.mem_append.2 (.inr (pkA_lent h2 id hid))
          · cases h
        · cases h
      · cases h
    · cases h

theorem callK_ext (id0 : Nat) (hb : Nat → Ob) (ds : List D) (s : S) {q : S × D} : ∀ sps, (callK id0 hb ds s (fun s d => some (s, d)) sps) = some q → ∃ new, q.1.dt = new ++ s.dt ∧ ∀ id, id < id0 → id ∉ new → q.1.H id = s.H id
  | [], h => by simp only [callK] at h; cases h
  | sp :: r, h => by
    simp only [callK] at h
    split at h
    · exact callK_ext id0 hb ds s r h
    · rename_i x fro lent hx
      cases hc : lentOk fro lent
      · rw [hc] at h; cases h
      · rw [hc] at h
        simp only [cond_true] at h
        cases hy : sp.sem x with
        | none => rw [hy] at h; cases h
        | some y =>
          rw [hy] at h
          simp only [Option.bind_some] at h
          obtain ⟨ks', z, he⟩ := splitK_eq (sp.outs ++ backs sp.ins) y
          rw [he] at h
          cases h8 : Nat.ble (nobP (retTg sp.outs.length (lentA hb sp.ins ds)) ks') 8
          · rw [h8] at h; cases h
          rw [h8] at h; cases h
          refine ⟨lent ++ fro, rfl, fun id hid hn => ?_⟩
          simp only [List.mem_append, not_or] at hn
          show (fillS _ _ _ _ _ _).2 id = s.H id
          rw [fill_keep _ _ _ _ (.inl hid) (by rw [objT_retTg]; exact fun h => hn.1 (pkA_lent hx id h)), (goneAll_at lent _ id).2 hn.1, (frz_at fro s.H id).2 hn.2]

end Go.Proofs.Fr

/- Operations in a row; two of them in either order. -/
namespace Go.Proofs.Fr
open Go Go.RowKit
variable {R : Type} {P : Program} {T : Nat → List Sp} {nt : Nat} {ops : Array Oper} {bef : Array Nat} {nx0 : Nat} {dr : Bool} {fz : Nat → Bool}

theorem opK_nat (id0 : Nat) (acc : Acc) (fz : Nat → Bool) (dr : Bool) (o : Oper) (s : S) (k : S → Option R) : opK P T id0 acc fz dr o s k = (opK P T id0 acc fz dr o s some).bind k := by
  unfold opK
  cases isWr T o.op
  · simp only [cond_false]
    rw [valK_nat (k := fun d obs ids => bif dr then (bif ids.all (fun i => fz i && (acc i && !acc.hid)) && Nat.ble obs.length 8 then k { s.commit o.dst id0 d obs ids with dt := s.dt } else none) else k (s.commit o.dst id0 d obs ids)), valK_nat (k := fun d obs ids => bif dr then (bif ids.all (fun i => fz i && (acc i && !acc.hid)) && Nat.ble obs.length 8 then some { s.commit o.dst id0 d obs ids with dt := s.dt } else none) else some (s.commit o.dst id0 d obs ids)), bind_comp]
    congr 1
    funext r
    cases dr
    · rfl
    · simp only [cond_true]
      cases (r.2.2.all (fun i => fz i && (acc i && !acc.hid)) && Nat.ble r.2.1.length 8) <;> rfl
  · simp only [cond_true]
    rw [wrK_nat (k := fun s' d => k (s'.put o.dst d)), wrK_nat (k := fun s' d => some (s'.put o.dst d)), bind_comp]
    rfl

/-- Whether an operation is to be done. -/
def gq (ops : Array Oper) (o : Oper) (e : Nat → D) : Option Bool :=
  match o.guard with
  | none => some true
  | some (j, want) => match (ops[j]?).bind (·.dst) with
    | none => none
    | some t => match e t with
      | .v (.one (.bool b)) => some (b == want)
      | .v (.one .skip) => some false
      | _ => none

theorem upd_id {α : Type} (f : Nat → α) (i : Nat) {x : α} (h : f i = x) : upd f i x = f := by
  funext j
  by_cases e : j = i
  · subst e; rw [upd_same, h]
  · rw [upd_ne _ _ e]

theorem put_id (s : S) (t : Nat) {d : D} (h : s.e t = d) : s.put (some t) d = s := by
  show ({ s with e := upd s.e t d } : S) = s
  rw [upd_id _ _ h]

theorem gdK_eq (o : Oper) (s : S) (yes no : S → Option R) : gdK ops o s yes no = match gq ops o s.e with
    | some true => yes s
    | some false => no s
    | none => none := by
  unfold gdK gq
  cases o.guard with
  | none => rfl
  | some jw =>
    obtain ⟨j, want⟩ := jw
    simp only
    cases (ops[j]?).bind (·.dst) with
    | none => rfl
    | some t =>
      simp only
      cases h : s.e t with
      | tup q => rfl
      | v d => cases d with
        | agg q => rfl
        | one l =>
          cases l <;> try rfl
          rename_i b
          cases b <;> cases want <;> simp [put_id s t h]

def stepD (P : Program) (T : Nat → List Sp) (nt : Nat) (ops : Array Oper) (bef : Array Nat) (nx0 : Nat) (dr : Bool) (fz : Nat → Bool) (i : Nat) (s : S) : Option S :=
  match ops[i]? with
  | none => none
  | some o => bif dstOk nt o.dst then (match gq ops o s.e with
    | some true => opK P T (nx0 + 8 * i) (accOf T ops bef nx0 fz dr i) fz dr o s some
    | some false => some (s.put o.dst (.one .skip))
    | none => none) else none

def runD (P : Program) (T : Nat → List Sp) (nt : Nat) (ops : Array Oper) (bef : Array Nat) (nx0 : Nat) (dr : Bool) (fz : Nat → Bool) : List Nat → S → Option S
  | [], s => some s
  | i :: r, s => (stepD P T nt ops bef nx0 dr fz i s).bind (runD P T nt ops bef nx0 dr fz r)

theorem regK_eq : ∀ (L : List Nat) (s : S) (k : S → Option R), regK P T nt ops bef nx0 dr fz L s k = (runD P T nt ops bef nx0 dr fz L s).bind fun s => k { s with nx := nx0 + 8 * ops.size }
  | [], s, k => rfl
  | i :: r, s, k => by
    simp only [regK, runD, stepD]
    cases ops[i]? with
    | none => rfl
    | some o =>
      simp only
      cases dstOk nt o.dst with
      | false => rfl
      | true =>
        simp only [cond_true]
        rw [gdK_eq]
        cases gq ops o s.e with
        | none => rfl
        | some b =>
          cases b
          · simp only [Option.bind_some]; exact regK_eq r _ k
          · simp only
            rw [opK_nat, bind_comp]
            congr 1
            funext s'
            exact regK_eq r s' k

/-- What an operation does to a state's parts. -/
def eff (P : Program) (T : Nat → List Sp) (ops : Array Oper) (id0 : Nat) (acc : Acc) (fz : Nat → Bool) (o : Oper) (e : Nat → D) (H : Nat → Ob) (dt : List Nat) : Option (D × (Nat → Ob) × List Nat) :=
  match gq ops o e with
  | none => none
  | some false => some (.one .skip, H, dt)
  | some true =>
    bif isWr T o.op then (wrK P T id0 (hbl acc H) o.op (o.op.operands.toList.map (evD e)) { e := fun _ => .one .undef, H := H, nx := 0, dt := dt } fun s d => some (s, d)).map fun r => (r.2, r.1.H, r.1.dt)
    else (valK P T id0 (vwl acc H) o.op (o.op.operands.toList.map (evD e)) fun d o i => some ((d, o, i) : Eo)).bind fun r =>
      bif r.2.2.all (fun i => fz i && (acc i && !acc.hid)) && Nat.ble r.2.1.length 8 then some (r.1, setObs (frz H r.2.2) id0 r.2.1, dt) else none

def putE (e : Nat → D) (dst : Option Nat) (d : D) : Nat → D := match dst with
  | some t => upd e t d
  | none => e

theorem put_putE (s : S) (dst : Option Nat) (d : D) : s.put dst d = { s with e := putE s.e dst d } := by cases dst <;> rfl

theorem stepD_eq {o : Oper} {i : Nat} (ho : ops[i]? = some o) (hd : dstOk nt o.dst = true) (s : S) :
    stepD P T nt ops bef nx0 true fz i s = (eff P T ops (nx0 + 8 * i) (accOf T ops bef nx0 fz true i) fz o s.e s.H s.dt).map fun r => { e := putE s.e o.dst r.1, H := r.2.1, nx := s.nx, dt := r.2.2 } := by
  unfold stepD eff
  simp only [ho, hd, cond_true]
  cases gq ops o s.e with
  | none => rfl
  | some b =>
    cases b
    · simp only [Option.map_some, put_putE]
    · simp only
      unfold opK
      cases isWr T o.op
      · simp only [cond_false, cond_true]
        rw [valK_nat (k := fun d obs ids => bif ids.all (fun j => fz j && (accOf T ops bef nx0 fz true i j && !(accOf T ops bef nx0 fz true i).hid)) && Nat.ble obs.length 8 then some ({ s.commit o.dst (nx0 + 8 * i) d obs ids with dt := s.dt } : S) else none)]
        cases valK P T (nx0 + 8 * i) (vwl (accOf T ops bef nx0 fz true i) s.H) o.op (o.op.operands.toList.map (evD s.e)) fun d o i => some ((d, o, i) : Eo) with
        | none => rfl
        | some r =>
          simp only [Option.bind_some]
          cases (r.2.2.all (fun j => fz j && (accOf T ops bef nx0 fz true i j && !(accOf T ops bef nx0 fz true i).hid)) && Nat.ble r.2.1.length 8)
          · rfl
          · simp only [cond_true, Option.map_some]
            congr 1
            unfold S.commit
            rw [put_putE]
      · simp only [cond_true]
        rw [wrK_nat (k := fun s' d => some (s'.put o.dst d))]
        have h := wrK_e P T (nx0 + 8 * i) (hbl (accOf T ops bef nx0 fz true i) s.H) o.op (o.op.operands.toList.map (evD s.e)) { s with e := fun _ => .one .undef } s.e
        have h2 := wrK_nx P T (nx0 + 8 * i) (hbl (accOf T ops bef nx0 fz true i) s.H) o.op (o.op.operands.toList.map (evD s.e)) { e := fun _ => .one .undef, H := s.H, nx := 0, dt := s.dt } s.nx
        have h3 : (wrK P T (nx0 + 8 * i) (hbl (accOf T ops bef nx0 fz true i) s.H) o.op (o.op.operands.toList.map (evD s.e)) s fun s d => some (s, d)) =
            (wrK P T (nx0 + 8 * i) (hbl (accOf T ops bef nx0 fz true i) s.H) o.op (o.op.operands.toList.map (evD s.e)) { e := fun _ => .one .undef, H := s.H, nx := 0, dt := s.dt } fun s d => some (s, d)).map fun r => ({ r.1 with e := s.e, nx := s.nx }, r.2) := by
          refine h.trans ?_
          rw [show ({ s with e := fun _ => .one .undef } : S) = { e := fun _ => .one .undef, H := s.H, nx := s.nx, dt := s.dt } from rfl]
          rw [show (wrK P T (nx0 + 8 * i) (hbl (accOf T ops bef nx0 fz true i) s.H) o.op (o.op.operands.toList.map (evD s.e)) { e := fun _ => .one .undef, H := s.H, nx := s.nx, dt := s.dt } fun s d => some (s, d)) = _ from h2]
          rw [Option.map_map]; rfl
        rw [h3]
        cases wrK P T (nx0 + 8 * i) (hbl (accOf T ops bef nx0 fz true i) s.H) o.op (o.op.operands.toList.map (evD s.e)) { e := fun _ => .one .undef, H := s.H, nx := 0, dt := s.dt } fun s d => some (s, d) with
        | none => rfl
        | some r => simp only [Option.map_some, Option.bind_some, put_putE]

theorem evD_same {e e' : Nat → D} {x : Operand} (h : ∀ t, x = .tmp t → e t = e' t) : evD e x = evD e' x := by
  cases x <;> first | rfl | exact h _ rfl

/-- An operation looks at its own slots alone. -/
theorem eff_e {id0 : Nat} {acc : Acc} {fz : Nat → Bool} {o : Oper} {e e' : Nat → D} (h : ∀ t ∈ opdTmps ops o, e t = e' t) (H : Nat → Ob) (dt : List Nat) : eff P T ops id0 acc fz o e H dt = eff P T ops id0 acc fz o e' H dt := by
  have hg : gq ops o e = gq ops o e' := by
    unfold gq
    cases hgd : o.guard with
    | none => rfl
    | some jw =>
      obtain ⟨j, want⟩ := jw
      simp only
      cases ht : (ops[j]?).bind (·.dst) with
      | none => rfl
      | some t =>
        simp only
        rw [h t (by simp only [opdTmps, hgd, ht, List.mem_append]; right; simp)]
  have hds : o.op.operands.toList.map (evD e) = o.op.operands.toList.map (evD e') := by
    refine List.map_congr_left fun x hx => evD_same fun t ht => h t ?_
    subst ht
    simp only [opdTmps, List.mem_append]
    exact .inl (List.mem_filterMap.2 ⟨_, hx, rfl⟩)
  unfold eff
  rw [hg, hds]

theorem tmp_val {id0 : Nat} {vw : Nat → Vw} {op : Op} {ds : List D} (ht : tmpOnly op = true) :
    (valK P T id0 vw op ds fun d o i => some ((d, o, i) : Eo)) = ((valK P T 0 (fun _ => .no) op ds fun d o i => some ((d, o, i) : Eo)).map (·.1)).map fun d => (d, [], []) := by
  cases op <;> first | (cases ht; done) | skip
  case move x => match ds with
    | [] => rfl
    | [d] => rfl
    | _ :: _ :: _ => rfl
  case assign x => match ds with
    | [] => rfl
    | [d] => rfl
    | _ :: _ :: _ => rfl
  case pick c x y => match ds with
    | [] => rfl
    | [d] => cases d with
      | tup => rfl
      | v d => cases d with
        | agg => rfl
        | one l => cases l <;> rfl
    | [d, _] => cases d with
      | tup => rfl
      | v d => cases d with
        | agg => rfl
        | one l => cases l <;> rfl
    | d :: _ :: _ :: _ :: _ => cases d with
      | tup => rfl
      | v d => cases d with
        | agg => rfl
        | one l => cases l <;> rfl
    | [d, a, b] => cases d with
      | tup => rfl
      | v d => cases d with
        | agg => rfl
        | one l =>
          cases l <;> try rfl
          rename_i x
          show pickD x a b (fun d => some ((d, [], []) : Eo)) = ((pickD x a b fun d => some ((d, [], []) : Eo)).map (·.1)).map fun d => (d, [], [])
          rw [pickD_nat (k := fun d => some ((d, [], []) : Eo))]
          cases pickD x a b some <;> rfl
  case build T0 parts =>
    simp only [valK]
    split
    · split <;> rfl
    · rfl
  case binOp op xT x y yT => match ds with
    | [] => rfl
    | [_] => rfl
    | _ :: _ :: _ :: _ => rfl
    | [a, b] =>
      show binK P op xT a b (fun l => some ((.one l, [], []) : Eo)) = ((binK P op xT a b fun l => some ((.one l, [], []) : Eo)).map (·.1)).map fun d => (d, [], [])
      rw [binK_nat (k := fun l => some ((.one l, [], []) : Eo))]
      cases binK P op xT a b some <;> rfl
  case unOp op xT x => match ds with
    | [] => rfl
    | _ :: _ :: _ => rfl
    | [a] =>
      show unK op a (fun l => some ((.one l, [], []) : Eo)) = ((unK op a fun l => some ((.one l, [], []) : Eo)).map (·.1)).map fun d => (d, [], [])
      rw [unK_nat (k := fun l => some ((.one l, [], []) : Eo))]
      cases unK op a some <;> rfl
  case field T0 x f => match ds with
    | [] => rfl
    | d :: _ :: _ => cases d with
      | tup => rfl
      | v d => cases d <;> rfl
    | [d] => cases d with
      | tup => rfl
      | v d => cases d with
        | one => rfl
        | agg ls =>
          simp only [valK]
          repeat' (first | rfl | split)
  case extract x i => match ds with
    | [] => rfl
    | d :: _ :: _ => cases d <;> rfl
    | [d] => cases d with
      | v => rfl
      | tup es =>
        simp only [valK]
        split <;> rfl

/-- An operation on slots alone. -/
theorem eff_tmp {id0 : Nat} {acc : Acc} {fz : Nat → Bool} {o : Oper} (ht : tmpOnly o.op = true) (e : Nat → D) : ∃ d? : Option D, ∀ H dt, eff P T ops id0 acc fz o e H dt = d?.map fun d => (d, H, dt) := by
  have hw : isWr T o.op = false := by cases hop : o.op <;> rw [hop] at ht <;> first | rfl | (cases ht; done)
  cases hg : gq ops o e with
  | none => exact ⟨none, fun H dt => by unfold eff; rw [hg]; rfl⟩
  | some b =>
    cases b
    · exact ⟨some (.one .skip), fun H dt => by unfold eff; rw [hg]; rfl⟩
    · have key : ∃ d? : Option D, ∀ id0 vw, (valK P T id0 vw o.op (o.op.operands.toList.map (evD e)) fun d o i => some ((d, o, i) : Eo)) = d?.map fun d => (d, [], []) := by
        generalize o.op.operands.toList.map (evD e) = ds
        generalize hop : o.op = op at ht
        exact ⟨_, fun id0 vw => tmp_val ht⟩
      obtain ⟨d?, hk⟩ := key
      refine ⟨d?, fun H dt => ?_⟩
      unfold eff
      rw [hg]
      simp only [hw, cond_false, hk]
      cases d? <;> rfl

theorem look_val {id0 : Nat} {vw : Nat → Vw} {op : Op} {ds : List D} (ht : lookOnly op = true) :
    (valK P T id0 vw op ds fun d o i => some ((d, o, i) : Eo)) = ((valK P T 0 vw op ds fun d o i => some ((d, o, i) : Eo)).map (·.1)).map fun d => (d, [], []) := by
  have none_eq : (none : Option Eo) = ((none : Option Eo).map (·.1)).map fun d => (d, [], []) := rfl
  have some_eq : ∀ d : D, some ((d, [], []) : Eo) = ((some ((d, [], []) : Eo)).map (·.1)).map fun d => (d, [], []) := fun _ => rfl
  cases op <;> first | (cases ht; done) | skip
  case load T' x =>
    rcases ds with _ | ⟨(a | _) | _, _ | ⟨d2, ds⟩⟩ <;> try rfl
    simp only [valK]
    cases tinfo P T' with
    | none => rfl
    | some ti =>
      cases cellsAt vw a with
      | none => rfl
      | some q =>
        obtain ⟨ls, off⟩ := q
        simp only
        cases cut ls off (if isAggD ti.desc then ti.size else 1) with
        | none =>
          simp only
          cases a <;> try rfl
          rename_i E t xs i off'
          cases off' <;> try rfl
          simp only
          cases (isAggD ti.desc && Nat.beq t.sz 1) with
          | false => rfl
          | true =>
            simp only [cond_true]
            by_cases hn : i + ti.size ≤ List.length (α := t.den) xs
            · rw [if_pos hn]; rfl
            · rw [if_neg hn]; rfl
        | some r =>
          simp only
          cases mkD (isAggD ti.desc) r <;> rfl
  case nilCheck x =>
    rcases ds with _ | ⟨(a | _) | _, _ | ⟨d2, ds⟩⟩ <;> try rfl
    simp only [valK]
    cases liveA vw a with
    | true => rfl
    | false =>
      simp only [Bool.false_eq_true, if_false]
      cases a <;> try rfl
      rename_i id
      simp only
      cases vw id <;> rfl
  case fieldAddr T' x f =>
    rcases ds with _ | ⟨(a | _) | _, _ | ⟨d2, ds⟩⟩ <;> try rfl
    simp only [valK]
    cases P.underlying T' with
    | none => rfl
    | some u =>
      cases u <;> try rfl
      rename_i fs
      simp only
      cases fs[f]? with
      | none => rfl
      | some fd =>
        simp only
        cases tinfo P fd.type with
        | none => rfl
        | some ti =>
          simp only
          by_cases h0 : ti.size = 0
          · rw [if_pos h0]; rfl
          · rw [if_neg h0]
            cases liveA vw a with
            | false => rfl
            | true =>
              simp only [if_true]
              cases addOff a fd.offset <;> rfl
  case indexAddr T' x y =>
    rcases ds with _ | ⟨(a | _) | _, _ | ⟨(b | _) | _, _ | ⟨d3, ds⟩⟩⟩ <;> try rfl
    all_goals (cases b <;> try rfl)
    rename_i k n
    simp only [valK]
    cases P.underlying T' with
    | none => rfl
    | some u =>
      cases u <;> try rfl
      case slice e =>
        cases a <;> try rfl
        case row E t xs =>
          simp only
          by_cases h1 : (tinfo P e).map (·.size) = some t.sz
          · rw [if_pos h1]
            by_cases h2 : 0 ≤ n ∧ n < (List.length (α := t.den) xs : Int)
            · rw [if_pos h2]; rfl
            · rw [if_neg h2]; rfl
          · rw [if_neg h1]; rfl
        case own id =>
          simp only
          cases vw id <;> try rfl
          rename_i E t xs
          simp only
          by_cases h1 : (tinfo P e).map (·.size) = some t.sz
          · rw [if_pos h1]
            by_cases h2 : 0 ≤ n ∧ n < (List.length (α := t.den) xs : Int)
            · rw [if_pos h2]; rfl
            · rw [if_neg h2]; rfl
          · rw [if_neg h1]; rfl
        case cut id m =>
          simp only
          cases vw id <;> try rfl
          rename_i E t xs
          simp only
          by_cases h1 : (tinfo P e).map (·.size) = some t.sz
          · rw [if_pos h1]
            by_cases h2 : 0 ≤ n ∧ n < (m : Int)
            · rw [if_pos h2]; rfl
            · rw [if_neg h2]; rfl
          · rw [if_neg h1]; rfl
        case vi id lo hi =>
          simp only
          cases vw id <;> try rfl
          rename_i E t xs
          simp only
          by_cases h1 : (tinfo P e).map (·.size) = some t.sz
          · rw [if_pos h1]
            by_cases h2 : 0 ≤ n ∧ n < ((hi - lo : Nat) : Int)
            · rw [if_pos h2]; rfl
            · rw [if_neg h2]; rfl
          · rw [if_neg h1]; rfl
      case array m e =>
        simp only
        cases tinfo P e with
        | none => rfl
        | some ti =>
          simp only
          by_cases h0 : ti.size = 0 ∨ m ≤ 1
          · rw [if_pos h0]; rfl
          · rw [if_neg h0]
            cases liveA vw a with
            | false => rfl
            | true =>
              simp only [if_true]
              by_cases h2 : 0 ≤ n ∧ n < (m : Int)
              · rw [if_pos h2]
                rw [splitN_eq _ (show n.toNat < m by omega)]
                cases addOff a (n.toNat * ti.size) <;> rfl
              · rw [if_neg h2]; rfl
  case call c =>
    obtain ⟨f, as, ts⟩ := c
    cases f <;> first | (cases ht; done) | skip
    rename_i f
    cases f <;> first | (cases ht; done) | skip
    rcases ds with _ | ⟨(a | _) | _, _ | ⟨d2, ds⟩⟩ <;> try rfl
    simp only [valK]
    cases lenTy P ts a with
    | false => rfl
    | true =>
      simp only [if_true]
      cases lenOf vw a <;> rfl

/-- An operation that may look at nothing. -/
theorem eff_look {id0 : Nat} {acc : Acc} {fz : Nat → Bool} {o : Oper} (ht : lookOnly o.op = true) (hb : ∀ id, acc.see id = false) (e : Nat → D) : ∃ d? : Option D, ∀ H dt, eff P T ops id0 acc fz o e H dt = d?.map fun d => (d, H, dt) := by
  have hw : isWr T o.op = false := by
    unfold lookOnly at ht
    split at ht <;> first | (rename_i h; rw [h]; rfl) | (cases ht; done)
  cases hg : gq ops o e with
  | none => exact ⟨none, fun H dt => by unfold eff; rw [hg]; rfl⟩
  | some b =>
    cases b
    · exact ⟨some (.one .skip), fun H dt => by unfold eff; rw [hg]; rfl⟩
    · have hv : ∀ H : Nat → Ob, vwl acc H = fun _ => .no := by
        intro H
        funext id
        unfold vwl
        rw [hb id]
        rfl
      refine ⟨(valK P T 0 (fun _ => .no) o.op (o.op.operands.toList.map (evD e)) fun d o i => some ((d, o, i) : Eo)).map (·.1), fun H dt => ?_⟩
      unfold eff
      rw [hg]
      simp only [hw, cond_false, hv, look_val (id0 := id0) (vw := fun _ => .no) ht]
      cases valK P T 0 (fun _ => .no) o.op (o.op.operands.toList.map (evD e)) fun d o i => some ((d, o, i) : Eo) <;> rfl

theorem eff_look2 {id0 : Nat} {acc : Acc} {fz : Nat → Bool} {o : Oper} (ht : lookOnly o.op = true) (e : Nat → D) : ∃ q : (Nat → Vw) → Option D, ∀ H dt, eff P T ops id0 acc fz o e H dt = (q (vwl acc H)).map fun d => (d, H, dt) := by
  have hw : isWr T o.op = false := by
    unfold lookOnly at ht
    split at ht <;> first | (rename_i h; rw [h]; rfl) | (cases ht; done)
  cases hg : gq ops o e with
  | none => exact ⟨fun _ => none, fun H dt => by unfold eff; rw [hg]; rfl⟩
  | some b =>
    cases b
    · exact ⟨fun _ => some (.one .skip), fun H dt => by unfold eff; rw [hg]; rfl⟩
    · refine ⟨fun V => (valK P T 0 V o.op (o.op.operands.toList.map (evD e)) fun d o i => some ((d, o, i) : Eo)).map (·.1), fun H dt => ?_⟩
      unfold eff
      rw [hg]
      simp only [hw, cond_false, look_val (id0 := id0) (vw := vwl acc H) ht]
      cases valK P T 0 (vwl acc H) o.op (o.op.operands.toList.map (evD e)) fun d o i => some ((d, o, i) : Eo) <;> rfl

/-- What is frozen was seen. -/
theorem pj_see {vw : Nat → Vw} : ∀ {t : Ty} {ls r : List L} {x : t.den} {ids : List Nat}, pj vw t ls = some (x, r, ids) → ∀ id ∈ ids, vw id ≠ .no
  | .int k, ls, r, x, ids, h => by
    simp only [pj] at h
    split at h
    · split at h
      · cases h; simp
      · cases h
    · cases h
  | .bool, ls, r, x, ids, h => by
    simp only [pj] at h
    split at h
    · cases h; simp
    · cases h
  | .str, ls, r, x, ids, h => by
    simp only [pj] at h
    split at h
    · cases h; simp
    · cases h
  | .sl E t, ls, r, x, ids, h => by
    simp only [pj] at h
    split at h
    · split at h
      · split at h
        · cases h; simp
        · cases h
      · cases h
    · cases h; simp
    · rename_i id q
      split at h
      · rename_i hv
        split at h
        · split at h
          · cases h
            intro j hj
            rw [List.mem_singleton.1 hj, hv]
            simp
          · cases h
        · cases h
      · cases h
    · rename_i id n q
      split at h
      · rename_i hv
        split at h
        · split at h
          · cases h
            intro j hj
            rw [List.mem_singleton.1 hj, hv]
            simp
          · cases h
        · cases h
      · cases h
    · rename_i id lo hi q
      split at h
      · rename_i hv
        split at h
        · split at h
          · cases h
            intro j hj
            rw [List.mem_singleton.1 hj, hv]
            simp
          · cases h
        · cases h
      · cases h
    · cases h
  | .nil, ls, r, x, ids, h => by
    simp only [pj] at h
    cases h; simp
  | .cons a b, ls, r, x, ids, h => by
    simp only [pj] at h
    split at h
    · rename_i x1 r1 i1 h1
      split at h
      · rename_i y r2 i2 h2
        cases h
        intro id hm
        rcases List.mem_append.1 hm with hm | hm
        · exact pj_see h1 id hm
        · exact pj_see h2 id hm
      · cases h
    · cases h

/-- A store changes no more than what it may look at. -/
theorem store_frame {id0 : Nat} {hb : Nat → Ob} {Ty' : TypeId} {x y : Operand} {ds : List D} {s : S} {r : S × D} (h : wrK P T id0 hb (.store Ty' x y) ds s (fun s d => some (s, d)) = some r) : ∀ id, hb id = .gone → r.1.H id = s.H id := by
  intro id hid
  have hup : ∀ (H : Nat → Ob) (i : Nat) (o : Ob), i ≠ id → upd H i o id = H id := fun H i o hne => upd_ne H o (Ne.symm hne)
  have no : ∀ {X : Option (S × D)}, X = some r → X = none → False := fun h1 h2 => by rw [h2] at h1; cases h1
  rcases ds with _ | ⟨(a | ls1) | t1, _ | ⟨d | t2, _ | ⟨d3, ds⟩⟩⟩
  case cons.v.one.cons.v.nil =>
    simp only [wrK] at h
    split at h
    · cases h
    · split at h
      · split at h
        · split at h
          · rename_i hbx
            split at h
            · cases h
              exact hup _ _ _ fun e => by rw [e, hid] at hbx; cases hbx
            · cases h
          · cases h
        · split at h
          · rename_i hbx
            split at h
            · rename_i hpj
              split at h
              · cases h
                show upd (frz s.H _) _ _ id = s.H id
                rw [hup _ _ _ fun e => by rw [e, hid] at hbx; cases hbx]
                refine (frz_at _ s.H id).2 fun hm => ?_
                unfold pjAll at hpj
                split at hpj
                · rename_i h1
                  cases hpj
                  refine pj_see h1 id hm ?_
                  show (hb id).vw = .no
                  rw [hid]; rfl
                · cases hpj
              · cases h
            · cases h
          · cases h
        · cases h
      · cases h
  all_goals exact (no h (by first | rfl | simp [wrK])).elim

theorem eff_st {id0 : Nat} {acc : Acc} {fz : Nat → Bool} {o : Oper} (ht : isSt o.op = true) (e : Nat → D) {H : Nat → Ob} {dt : List Nat} {r : D × (Nat → Ob) × List Nat} (h : eff P T ops id0 acc fz o e H dt = some r) : ∀ id, acc.see id = false → r.2.1 id = H id := by
  intro id hid
  generalize ho : o.op = op at ht
  cases op <;> first | (cases ht; done) | skip
  unfold eff at h
  cases hg : gq ops o e with
  | none => rw [hg] at h; cases h
  | some b =>
    rw [hg] at h
    cases b
    · cases h; rfl
    · simp only [ho, isWr, cond_true, Option.map_eq_some_iff] at h
      obtain ⟨r', h', rfl⟩ := h
      have := store_frame h' id (by unfold hbl; rw [hid]; rfl)
      exact this

end Go.Proofs.Fr

/- Two operations in either order; all orders that the edges allow come to the same. -/
namespace Go.Proofs.Fr
open Go Go.RowKit
variable {R : Type} {P : Program} {T : Nat → List Sp} {nt : Nat} {ops : Array Oper} {bef : Array Nat} {nx0 : Nat} {fz : Nat → Bool}

theorem putE_same {e : Nat → D} {dst : Option Nat} {d : D} {t : Nat} (h : dst ≠ some t) : putE e dst d t = e t := by
  cases dst with
  | none => rfl
  | some q => exact upd_ne _ _ fun e => h (by rw [e])

theorem putE_comm {e : Nat → D} {x y : Option Nat} {d d' : D} (h : ∀ t, x = some t → y ≠ some t) : putE (putE e x d) y d' = putE (putE e y d') x d := by
  cases x with
  | none => rfl
  | some p =>
    cases y with
    | none => rfl
    | some q =>
      have hne : q ≠ p := fun e => h p rfl (by rw [e])
      funext t
      simp only [putE]
      by_cases e1 : t = q
      · subst e1; rw [upd_same, upd_ne _ _ hne, upd_same]
      · rw [upd_ne _ _ e1]
        by_cases e2 : t = p
        · subst e2; rw [upd_same, upd_same]
        · rw [upd_ne _ _ e2, upd_ne _ _ e2, upd_ne _ _ e1]

theorem setObs_comm (H : Nat → Ob) (a b : Nat) (obs obs' : List Ob) (h : a + obs.length ≤ b ∨ b + obs'.length ≤ a) : setObs (setObs H a obs) b obs' = setObs (setObs H b obs') a obs := by
  funext id
  by_cases h1 : a ≤ id ∧ id < a + obs.length
  · have hi : id - a < obs.length := by omega
    rw [(setObs_at obs' _ b id).2 (by omega), (setObs_at obs _ a id).1 (id - a) obs[id - a] (List.getElem?_eq_getElem hi) (by omega), (setObs_at obs _ a id).1 (id - a) obs[id - a] (List.getElem?_eq_getElem hi) (by omega)]
  · by_cases h2 : b ≤ id ∧ id < b + obs'.length
    · have hi : id - b < obs'.length := by omega
      rw [(setObs_at obs _ a id).2 (by omega), (setObs_at obs' _ b id).1 (id - b) obs'[id - b] (List.getElem?_eq_getElem hi) (by omega), (setObs_at obs' _ b id).1 (id - b) obs'[id - b] (List.getElem?_eq_getElem hi) (by omega)]
    · rw [(setObs_at obs' _ b id).2 (by omega), (setObs_at obs _ a id).2 (by omega), (setObs_at obs _ a id).2 (by omega), (setObs_at obs' _ b id).2 (by omega)]

/-- An operation that writes nothing: by what it may look at alone. -/
theorem eff_q {id0 : Nat} {acc : Acc} {fz : Nat → Bool} {o : Oper} (hw : isWr T o.op = false) (e : Nat → D) : ∃ q : (Nat → Vw) → Option (D × List Ob × List Nat), (∀ V d obs ids, q V = some (d, obs, ids) → obs.length ≤ 8 ∧ ∀ i ∈ ids, acc i = true ∧ acc.hid = false) ∧ ∀ H dt, eff P T ops id0 acc fz o e H dt = (q (vwl acc H)).map fun r => (r.1, setObs (frz H r.2.2) id0 r.2.1, dt) := by
  cases hg : gq ops o e with
  | none =>
    refine ⟨fun _ => none, fun V d obs ids h => ?_, fun H dt => ?_⟩
    · cases h
    · unfold eff; rw [hg]; rfl
  | some b =>
    cases b
    · refine ⟨fun _ => some (.one .skip, [], []), fun V d obs ids h => ?_, fun H dt => ?_⟩
      · cases h; simp
      · unfold eff; rw [hg]; rfl
    · refine ⟨fun V => (valK P T id0 V o.op (o.op.operands.toList.map (evD e)) fun d o i => some ((d, o, i) : Eo)).bind fun r => bif r.2.2.all (fun i => fz i && (acc i && !acc.hid)) && Nat.ble r.2.1.length 8 then some (r.1, r.2.1, r.2.2) else none, fun V d obs ids h => ?_, fun H dt => ?_⟩
      · simp only at h
        cases hk : valK P T id0 V o.op (o.op.operands.toList.map (evD e)) fun d o i => some ((d, o, i) : Eo) with
        | none => rw [hk] at h; cases h
        | some r =>
          rw [hk] at h
          simp only [Option.bind_some] at h
          cases hc : r.2.2.all (fun i => fz i && (acc i && !acc.hid)) && Nat.ble r.2.1.length 8 with
          | false => rw [hc] at h; cases h
          | true =>
            rw [hc] at h
            cases h
            simp only [Bool.and_eq_true] at hc
            refine ⟨Nat.le_of_ble_eq_true hc.2, fun i hi => ?_⟩
            have := List.all_eq_true.1 hc.1 i hi
            simp only [Bool.and_eq_true, Bool.not_eq_true'] at this
            exact this.2
      · unfold eff
        rw [hg]
        simp only [hw, cond_false]
        cases valK P T id0 (vwl acc H) o.op (o.op.operands.toList.map (evD e)) fun d o i => some ((d, o, i) : Eo) with
        | none => rfl
        | some r =>
          obtain ⟨d, obs, ids⟩ := r
          simp only [Option.bind_some]
          cases (ids.all (fun i => fz i && (acc i && !acc.hid)) && Nat.ble obs.length 8) <;> rfl

theorem Ob.freeze_vwb (o : Ob) : o.freeze.vwb = o.vwb := by cases o <;> rfl

theorem vwl_far {acc : Acc} {H : Nat → Ob} {id0 : Nat} {obs : List Ob} {ids : List Nat} (h : obs.length ≤ 8) (hacc : ∀ id, id0 ≤ id → id < id0 + 8 → acc id = false) : vwl acc (setObs (frz H ids) id0 obs) = vwl acc H := by
  funext id
  unfold vwl
  by_cases h1 : id0 ≤ id ∧ id < id0 + obs.length
  · rw [hacc id h1.1 (by omega)]; rfl
  · rw [(setObs_at obs _ id0 id).2 (by omega)]
    by_cases hi : id ∈ ids
    · rw [(frz_at ids H id).1 hi, Ob.freeze_vw, Ob.freeze_vwb]
    · rw [(frz_at ids H id).2 hi]

theorem frz_setObs {H : Nat → Ob} {id0 : Nat} {obs : List Ob} {ids : List Nat} (h : ∀ i ∈ ids, ¬ (id0 ≤ i ∧ i < id0 + obs.length)) : frz (setObs H id0 obs) ids = setObs (frz H ids) id0 obs := by
  funext id
  by_cases h1 : id0 ≤ id ∧ id < id0 + obs.length
  · have hi : id - id0 < obs.length := by omega
    rw [(frz_at ids _ id).2 (fun hm => h id hm h1), (setObs_at obs H id0 id).1 (id - id0) _ (List.getElem?_eq_getElem hi) (by omega), (setObs_at obs _ id0 id).1 (id - id0) _ (List.getElem?_eq_getElem hi) (by omega)]
  · rw [(setObs_at obs (frz H ids) id0 id).2 (by omega)]
    by_cases hi : id ∈ ids
    · rw [(frz_at ids _ id).1 hi, (frz_at ids _ id).1 hi, (setObs_at obs H id0 id).2 (by omega)]
    · rw [(frz_at ids _ id).2 hi, (frz_at ids _ id).2 hi, (setObs_at obs H id0 id).2 (by omega)]

theorem frz_frz {H : Nat → Ob} (a b : List Nat) : frz (frz H a) b = frz (frz H b) a := by
  funext id
  by_cases ha : id ∈ a <;> by_cases hb : id ∈ b
  · rw [(frz_at b _ id).1 hb, (frz_at a _ id).1 ha, (frz_at a _ id).1 ha, (frz_at b _ id).1 hb]
  · rw [(frz_at b _ id).2 hb, (frz_at a _ id).1 ha, (frz_at a _ id).1 ha, (frz_at b _ id).2 hb]
  · rw [(frz_at b _ id).1 hb, (frz_at a _ id).2 ha, (frz_at a _ id).2 ha, (frz_at b _ id).1 hb]
  · rw [(frz_at b _ id).2 hb, (frz_at a _ id).2 ha, (frz_at a _ id).2 ha, (frz_at b _ id).2 hb]

theorem both_comm {H : Nat → Ob} {a b : Nat} {oa ob : List Ob} {ia ib : List Nat} (h : a + oa.length ≤ b ∨ b + ob.length ≤ a) (ha : ∀ i ∈ ia, ¬ (b ≤ i ∧ i < b + ob.length)) (hb : ∀ i ∈ ib, ¬ (a ≤ i ∧ i < a + oa.length)) :
    setObs (frz (setObs (frz H ia) a oa) ib) b ob = setObs (frz (setObs (frz H ib) b ob) ia) a oa := by
  rw [frz_setObs hb, frz_setObs ha, frz_frz, setObs_comm _ _ _ _ _ h]

theorem acc_far {i j : Nat} (hb : (bef.getD i 0).testBit j = false) : ∀ id, nx0 + 8 * j ≤ id → id < nx0 + 8 * j + 8 → accOf T ops bef nx0 fz true i id = false := by
  intro id h1 h2
  unfold accOf
  have e1 : Nat.blt id nx0 = false := by
    cases h : Nat.blt id nx0
    · rfl
    · have : id < nx0 := by simpa [Nat.blt_eq] using h
      omega
  have e2 : (id - nx0) / 8 = j := by omega
  simp only [cond_true, e1, e2, hb, Bool.or_self, Bool.and_false]

theorem commOps_spec {a b : Oper} (h : commOps T ops a b = true) : ((isWr T a.op = false ∧ isWr T b.op = false) ∨ tmpOnly a.op = true ∨ tmpOnly b.op = true ∨ (isRowW T a.op = true ∧ isWr T b.op = false) ∨ (isRowW T b.op = true ∧ isWr T a.op = false) ∨ (lookOnly a.op = true ∧ wrVal T b.op = true) ∨ (lookOnly b.op = true ∧ wrVal T a.op = true) ∨ (lookOnly a.op = true ∧ isSt b.op = true) ∨ (lookOnly b.op = true ∧ isSt a.op = true)) ∧ (∀ t, a.dst = some t → t ∉ opdTmps ops b ∧ b.dst ≠ some t) ∧ (∀ t, b.dst = some t → t ∉ opdTmps ops a) := by
  unfold commOps at h
  simp only [Bool.and_eq_true, Bool.or_eq_true, Bool.not_eq_true'] at h
  obtain ⟨⟨h1, h2⟩, h3⟩ := h
  refine ⟨?_, fun t ht => ?_, fun t ht => ?_⟩
  · rcases h1 with (((((((h1 | h1) | h1) | h1) | h1) | h1) | h1) | h1) | h1
    · exact .inl h1
    · exact .inr (.inl h1)
    · exact .inr (.inr (.inl h1))
    · exact .inr (.inr (.inr (.inl h1)))
    · exact .inr (.inr (.inr (.inr (.inl h1))))
    · exact .inr (.inr (.inr (.inr (.inr (.inl h1)))))
    · exact .inr (.inr (.inr (.inr (.inr (.inr (.inl h1))))))
    · exact .inr (.inr (.inr (.inr (.inr (.inr (.inr (.inl h1)))))))
    · exact .inr (.inr (.inr (.inr (.inr (.inr (.inr (.inr h1)))))))
  · rw [ht] at h2
    simp only [Bool.and_eq_true, Bool.not_eq_true', bne_iff_ne, ne_eq] at h2
    exact ⟨fun hm => by have := h2.1; simp [hm] at this, h2.2⟩
  · rw [ht] at h3
    simp only [Bool.not_eq_true'] at h3
    exact fun hm => by simp [hm] at h3

/-- What an append does: the row that it makes anew, and that which is gone. -/
def appQ (P : Program) (hb : Nat → Ob) (op : Op) (ds : List D) : Option (List Nat × Ob × Option Nat) :=
  match op, ds with
  | .call { callee := .builtin .append, args := _, argTypes }, [.v (.one a), .v (.one b)] =>
    match argTypes.toList with
    | [T, T'] => if T = T' then (match P.underlying T with
      | some (.slice e) => match tinfo P e, tyOf P 20 e with
        | some ti, some t => if ti.size = t.sz ∧ 0 < t.sz ∧ 0 < ti.bytes ∧ ti.zero.cells.size = ti.size then (match srcOf t hb b with
          | none => none
          | some ys => match a with
            | .nils => if ys.length ≤ maxBytes / ti.bytes then some ([], .row e t ys, none) else none
            | .own id => match hb id with
              | .row E t0 xs => if h : t0 = t then (if E = e ∧ notOwn b id = true then (if xs.length + ys.length ≤ maxBytes / ti.bytes then
                  some ([id], .row e t (castL h xs ++ ys), none) else none) else none) else none
              | _ => none
            | .cut id n => match hb id with
              | .row E t0 xs => if h : t0 = t then (bif sameVi b id then (if E = e ∧ n + ys.length ≤ xs.length then some ([id], .row e t (putAtL (castL h xs) n ys), some (n + ys.length)) else none) else if E = e ∧ notOwn b id = true ∧ n ≤ xs.length then (if n + ys.length ≤ maxBytes / ti.bytes then
                  some ([id], .row e t ((castL h xs).take n ++ ys), none) else none) else none) else none
              | _ => none
            | .vi id lo hi => match hb id with
              | .row E t0 xs => if h : t0 = t then (if E = e ∧ notOwn b id = true ∧ lo ≤ hi ∧ hi ≤ xs.length then (if (hi - lo) + ys.length ≤ maxBytes / ti.bytes then
                  some ([id], .row e t (((castL h xs).take hi).drop lo ++ ys), none) else none) else none) else none
              | _ => none
            | _ => none) else none
        | _, _ => none
      | _ => none) else (zRow P T T' a b).map fun o => ([], o, none)
    | _ => none
  | _, _ => none

/-- By what name the row is known that an append makes. -/
def appL (id0 : Nat) : Option Nat → L
  | none => .own id0
  | some m => .cut id0 m

theorem wrK_app {id0 : Nat} {hb : Nat → Ob} {op : Op} (ha : isApp op = true) (ds : List D) (s : S) (k : S → D → Option R) :
    wrK P T id0 hb op ds s k = (appQ P hb op ds).bind fun r => k { s with H := upd (goneAll s.H r.1) id0 r.2.1, dt := r.1 ++ s.dt } (.one (appL id0 r.2.2)) := by
  unfold isApp at ha
  split at ha
  · rcases ds with _ | ⟨d1, _ | ⟨d2, _ | ⟨d3, r⟩⟩⟩
    · rfl
    · rcases d1 with (_ | _) | _ <;> rfl
    · rcases d1 with (a | _) | _
      · rcases d2 with (b | _) | _
        · rename_i argTypes
          unfold wrK appQ
          dsimp only
          generalize argTypes.toList = L
          rcases L with _ | ⟨T1, _ | ⟨T2, _ | _⟩⟩
          · rfl
          · rfl
          · dsimp only
            by_cases hTT : T1 = T2
            · rw [if_pos hTT, if_pos hTT]
              cases P.underlying T1 with
              | none => rfl
              | some u =>
                cases u
                case slice e =>
                  dsimp only
                  cases tinfo P e with
                  | none => rfl
                  | some ti =>
                    cases tyOf P 20 e with
                    | none => rfl
                    | some t =>
                      dsimp only
                      by_cases hc : ti.size = t.sz ∧ 0 < t.sz ∧ 0 < ti.bytes ∧ ti.zero.cells.size = ti.size
                      · rw [if_pos hc, if_pos hc]
                        cases srcOf t hb b with
                        | none => rfl
                        | some ys =>
                          dsimp only
                          cases a
                          case nils =>
                            dsimp only
                            by_cases h1 : List.length (α := t.den) ys ≤ maxBytes / ti.bytes
                            · rw [if_pos h1, if_pos h1]; rfl
                            · rw [if_neg h1, if_neg h1]; rfl
                          case own id =>
                            dsimp only
                            cases hb id
                            case row E t0 xs =>
                              dsimp only
                              by_cases h0 : t0 = t
                              · rw [dif_pos h0, dif_pos h0]
                                by_cases h2 : E = e ∧ notOwn b id = true
                                · rw [if_pos h2, if_pos h2]
                                  by_cases h3 : List.length (α := t0.den) xs + List.length (α := t.den) ys ≤ maxBytes / ti.bytes
                                  · rw [if_pos h3, if_pos h3]; rfl
                                  · rw [if_neg h3, if_neg h3]; rfl
                                · rw [if_neg h2, if_neg h2]; rfl
                              · rw [dif_neg h0, dif_neg h0]; rfl
                            all_goals rfl
                          case cut id n =>
                            dsimp only
                            cases hb id
                            case row E t0 xs =>
                              dsimp only
                              by_cases h0 : t0 = t
                              · rw [dif_pos h0, dif_pos h0]
                                cases sameVi b id with
                                | true =>
                                  simp only [cond_true]
                                  by_cases h2 : E = e ∧ n + List.length (α := t.den) ys ≤ List.length (α := t0.den) xs
                                  · rw [if_pos h2, if_pos h2]; rfl
                                  · rw [if_neg h2, if_neg h2]; rfl
                                | false =>
                                simp only [cond_false]
                                by_cases h2 : E = e ∧ notOwn b id = true ∧ n ≤ List.length (α := t0.den) xs
                                · rw [if_pos h2, if_pos h2]
                                  by_cases h3 : n + List.length (α := t.den) ys ≤ maxBytes / ti.bytes
                                  · rw [if_pos h3, if_pos h3]; rfl
                                  · rw [if_neg h3, if_neg h3]; rfl
                                · rw [if_neg h2, if_neg h2]; rfl
                              · rw [dif_neg h0, dif_neg h0]; rfl
                            all_goals rfl
                          case vi id lo hi =>
                            dsimp only
                            cases hb id
                            case row E t0 xs =>
                              dsimp only
                              by_cases h0 : t0 = t
                              · rw [dif_pos h0, dif_pos h0]
                                by_cases h2 : E = e ∧ notOwn b id = true ∧ lo ≤ hi ∧ hi ≤ List.length (α := t0.den) xs
                                · rw [if_pos h2, if_pos h2]
                                  by_cases h3 : (hi - lo) + List.length (α := t.den) ys ≤ maxBytes / ti.bytes
                                  · rw [if_pos h3, if_pos h3]; rfl
                                  · rw [if_neg h3, if_neg h3]; rfl
                                · rw [if_neg h2, if_neg h2]; rfl
                              · rw [dif_neg h0, dif_neg h0]; rfl
                            all_goals rfl
                          all_goals rfl
                      · rw [if_neg hc, if_neg hc]; rfl
                all_goals rfl
            · rw [if_neg hTT, if_neg hTT]
              rw [zRow_K P T1 T2 a b (fun o => k { s with H := upd s.H id0 o } (.one (.own id0)))]
              cases zRow P T1 T2 a b <;> rfl
          · rfl
        · rfl
        · rfl
      · rfl
      · rfl
    · rcases d1 with (a | _) | _
      · rcases d2 with (b | _) | _ <;> rfl
      · rfl
      · rfl
  · cases ha

theorem appQ_row {hb : Nat → Ob} {op : Op} {ds : List D} {r : List Nat × Ob × Option Nat} (h : appQ P hb op ds = some r) : ∀ x ∈ r.1, ∃ E t xs, hb x = .row E t xs := by
  unfold appQ at h
  simp only [cond_eq_ite] at h
  repeat' (split at h)
  all_goals first
    | cases h; done
    | (cases h; intro x hx; simp at hx; done)
    | (simp only [Option.map_eq_some_iff] at h; obtain ⟨o, _, rfl⟩ := h; intro x hx; simp at hx; done)
    | (cases h; intro x hx; simp only [List.mem_singleton] at hx; subst hx; exact ⟨_, _, _, by assumption⟩)

theorem eff_app {id0 : Nat} {acc : Acc} {fz : Nat → Bool} {o : Oper} (ha : isApp o.op = true) (e : Nat → D) : ∃ q : (Nat → Ob) → Option (D × List Nat × List Ob), (∀ hb r, q hb = some r → (∀ x ∈ r.2.1, ∃ E t xs, hb x = .row E t xs) ∧ r.2.2.length ≤ 1) ∧
    ∀ H dt, eff P T ops id0 acc fz o e H dt = (q (hbl acc H)).map fun r => (r.1, setObs (goneAll H r.2.1) id0 r.2.2, r.2.1 ++ dt) := by
  have hw : isWr T o.op = true := by
    unfold isApp at ha
    split at ha
    · rename_i h; rw [h]; rfl
    · cases ha
  cases hg : gq ops o e with
  | none => exact ⟨fun _ => none, fun hb r h => (by cases h), fun H dt => by unfold eff; rw [hg]; rfl⟩
  | some b =>
    cases b
    · exact ⟨fun _ => some (.one .skip, [], []), fun hb r h => (by cases h; simp), fun H dt => by unfold eff; rw [hg]; rfl⟩
    · refine ⟨fun hb => (appQ P hb o.op (o.op.operands.toList.map (evD e))).map fun r => (.one (appL id0 r.2.2), r.1, [r.2.1]), fun hb r h => ?_, fun H dt => ?_⟩
      · simp only [Option.map_eq_some_iff] at h
        obtain ⟨r', h', rfl⟩ := h
        exact ⟨appQ_row h', Nat.le_refl _⟩
      · unfold eff
        rw [hg]
        simp only [hw, cond_true]
        rw [wrK_app ha]
        cases appQ P (hbl acc H) o.op (o.op.operands.toList.map (evD e)) with
        | none => rfl
        | some r => rfl

theorem splitK_eq' : ∀ (ks : List K) (y : dens ks), ∃ (ks' : List K) (z : dens ks'), ks'.length = ks.length ∧ ∀ {R : Type} (k : (ks : List K) → dens ks → Option R), splitK ks y k = k ks' z
  | [], y => ⟨[], (), rfl, fun _ => rfl⟩
  | q :: r, y => by
    obtain ⟨ks', z, hl, h⟩ := splitK_eq' r y.2
    cases q with
    | mb T c =>
      cases hy : y.1 with
      | none => exact ⟨.np :: ks', ((), z), by simp [hl], fun k => by simp only [splitK, hy]; exact h _⟩
      | some v => exact ⟨.bx T c :: ks', (v, z), by simp [hl], fun k => by simp only [splitK, hy]; exact h _⟩
    | _ => exact ⟨_ :: ks', (y.1, z), by simp [hl], fun k => by simp only [splitK]; exact h _⟩

theorem setObs_app (H : Nat → Ob) : ∀ (l1 l2 : List Ob) (a : Nat), setObs (setObs H a l1) (a + l1.length) l2 = setObs H a (l1 ++ l2) := by
  intro l1
  induction l1 generalizing H with
  | nil => intro l2 a; rfl
  | cons o r ih =>
    intro l2 a
    simp only [List.cons_append, setObs, List.length_cons]
    rw [← ih, show a + (r.length + 1) = a + 1 + r.length by omega]

theorem fill_slots : ∀ (l : List Nat) (ks : List K) (z : dens ks) (e : Nat → D) (H : Nat → Ob) (nx : Nat), l.length = ks.length → (fillS e H nx (l.map .slot) ks z).2 = setObs H nx (mkA ks z nx).2 ∧ nobP (l.map .slot) ks = nobA ks
  | [], [], _, _, _, _, _ => ⟨rfl, rfl⟩
  | _ :: _, [], _, _, _, _, h => by simp at h
  | [], _ :: _, _, _, _, _, h => by simp at h
  | i :: l, k :: r, z, e, H, nx, h => by
    obtain ⟨h1, h2⟩ := fill_slots l r z.2 (upd e i (.v (mkI k z.1 nx).1)) (setObs H nx (mkI k z.1 nx).2) (nx + k.nob) (by simpa using h)
    refine ⟨?_, by simp only [List.map_cons, nobP, nobA, h2]⟩
    simp only [List.map_cons, fillS, mkA]
    rw [h1, ← mkI_len k z.1 nx, setObs_app]

theorem fill_e : ∀ (tgs : List Tg) (ks : List K) (z : dens ks) (e : Nat → D) (H H' : Nat → Ob) (nx : Nat), (fillS e H nx tgs ks z).1 = (fillS e H' nx tgs ks z).1
  | [], [], _, _, _, _, _ => rfl
  | [], _ :: _, _, _, _, _, _ => rfl
  | .slot _ :: _, [], _, _, _, _, _ => rfl
  | .obj _ :: _, [], _, _, _, _, _ => rfl
  | .slot i :: tgs, k :: r, z, e, H, H', nx => by simp only [fillS]; exact fill_e tgs r z.2 _ _ _ _
  | .obj id :: tgs, k :: r, z, e, H, H', nx => by
    cases k <;> (simp only [fillS]; exact fill_e tgs r z.2 _ _ _ _)

theorem pkC_rowish {H : Nat → Ob} : ∀ {k : K} {ls r : List L} {x : k.den} {fro lent : List Nat}, k.rowish = true → pkC H k ls = some (x, r, fro, lent) → (∀ i ∈ fro, ∃ E t xs, (H i).vw = .row E t xs) ∧ ∀ i ∈ lent, ∃ E t xs, H i = .row E t xs := by
  intro k ls r x fro lent hk h
  cases k with
  | v t =>
    simp only [pkC] at h
    split at h
    · rename_i hp; cases h; exact ⟨fun i hi => pj_rows hp i hi, by simp⟩
    · cases h
  | own E t =>
    simp only [pkC] at h
    split at h
    · cases h; simp
    · split at h
      · rename_i hH
        split at h
        · split at h
          · cases h; exact ⟨by simp, fun i hi => by simp only [List.mem_singleton] at hi; subst hi; exact ⟨_, _, _, hH⟩⟩
          · cases h
        · cases h
      · cases h
    · split at h
      · rename_i hH
        split at h
        · split at h
          · cases h; exact ⟨by simp, fun i hi => by simp only [List.mem_singleton] at hi; subst hi; exact ⟨_, _, _, hH⟩⟩
          · cases h
        · cases h
      · cases h
    · split at h
      · rename_i hH
        split at h
        · split at h
          · cases h; exact ⟨by simp, fun i hi => by simp only [List.mem_singleton] at hi; subst hi; exact ⟨_, _, _, hH⟩⟩
          · cases h
        · cases h
      · cases h
    · cases h
  | nl =>
    simp only [pkC] at h
    split at h
    · cases h; simp
    · cases h
  | _ => cases hk

theorem pkA_rowish {H : Nat → Ob} : ∀ {ks : List K} {ds : List D} {x : dens ks} {fro lent : List Nat}, ks.all K.rowish = true → pkA H ks ds = some (x, fro, lent) → ((∀ i ∈ fro, ∃ E t xs, (H i).vw = .row E t xs) ∧ ∀ i ∈ lent, ∃ E t xs, H i = .row E t xs) ∧ lentA H ks ds = []
  | [], ds, x, fro, lent, hk, h => by
    simp only [pkA] at h
    split at h
    · cases h; exact ⟨by simp, by simp [lentA]⟩
    · cases h
  | k :: r, ds, x, fro, lent, hk, h => by
    simp only [List.all_cons, Bool.and_eq_true] at hk
    simp only [pkA] at h
    split at h
    · split at h
      · split at h
        · rename_i h1
          split at h
          · rename_i h2
            cases h
            obtain ⟨p1, p2⟩ := pkC_rowish hk.1 h1
            obtain ⟨⟨q1, q2⟩, q3⟩ := pkA_rowish hk.2 h2
            refine ⟨⟨fun i hi => ?_, fun i hi => ?_⟩, ?_⟩
            · rcases List.mem_append.1 hi with hi | hi
              · exact p1 i hi
              · exact q1 i hi
            · rcases List.mem_append.1 hi with hi | hi
              · exact p2 i hi
              · exact q2 i hi
            · simp only [lentA, q3, List.append_nil]
              cases k <;> first | rfl | (cases hk.1; done)
          · cases h
        · cases h
      · cases h
    · cases h

/-- What a call does that writes to rows alone. -/
theorem callK_row (id0 : Nat) (ds : List D) : ∀ (sps : List Sp), (sps.all fun sp => sp.ins.all K.rowish) = true →
    ∃ q : (Nat → Ob) → Option (D × List Nat × List Nat × List Ob), (∀ hb r, q hb = some r → (∀ x ∈ r.2.1, ∃ E t xs, (hb x).vw = .row E t xs) ∧ (∀ x ∈ r.2.2.1, ∃ E t xs, hb x = .row E t xs) ∧ r.2.2.2.length ≤ 8) ∧
      ∀ hb (s : S), callK id0 hb ds s (fun s d => some (s, d)) sps = (q hb).map fun r => ({ s with H := setObs (goneAll (frz s.H r.2.1) r.2.2.1) id0 r.2.2.2, dt := r.2.2.1 ++ r.2.1 ++ s.dt }, r.1)
  | [], _ => ⟨fun _ => none, fun hb r h => (by cases h), fun hb s => rfl⟩
  | sp :: r, hall => by
    simp only [List.all_cons, Bool.and_eq_true] at hall
    obtain ⟨q, q1, q2⟩ := callK_row id0 ds r hall.2
    have hback : backs sp.ins = [] := by
      have : ∀ ks : List K, ks.all K.rowish = true → backs ks = [] := by
        intro ks
        induction ks with
        | nil => intro _; rfl
        | cons k ks ih =>
          intro h
          simp only [List.all_cons, Bool.and_eq_true] at h
          have hk : k.bks = [] := by
            cases k <;> first | rfl | (cases h.1; done)
          show k.bks ++ backs ks = []
          rw [hk, ih h.2]; rfl
      exact this _ hall.1
    refine ⟨fun hb => match pkA hb sp.ins ds with
      | none => q hb
      | some (x, fro, lent) => bif lentOk fro lent then (sp.sem x).bind fun y => splitK (sp.outs ++ backs sp.ins) y fun ks z =>
          bif Nat.ble (nobP (retTg sp.outs.length []) ks) 8 then some (resD ((List.range sp.outs.length).map fun i => d0Of ((fillS (fun _ => .one .skip) (fun _ => .gone) id0 (retTg sp.outs.length []) ks z).1 i)), fro, lent, (mkA ks z id0).2) else none
        else none, fun hb rr h => ?_, fun hb s => ?_⟩
    · simp only at h
      split at h
      · exact q1 hb rr h
      · rename_i x fro lent hp
        obtain ⟨⟨p1, p2⟩, p3⟩ := pkA_rowish hall.1 hp
        cases hl : lentOk fro lent with
        | false => rw [hl] at h; cases h
        | true =>
          rw [hl] at h
          simp only [cond_true] at h
          cases hy : sp.sem x with
          | none => rw [hy] at h; cases h
          | some y =>
            rw [hy] at h
            simp only [Option.bind_some] at h
            obtain ⟨ks', z, hlen, he⟩ := splitK_eq' (sp.outs ++ backs sp.ins) y
            rw [he] at h
            have hlen' : (List.range sp.outs.length).length = ks'.length := by rw [hlen, hback, List.append_nil, List.length_range]
            have hnb : nobP (retTg sp.outs.length []) ks' = nobA ks' := by
              have := (fill_slots (List.range sp.outs.length) ks' z (fun _ => .one .skip) (fun _ => .gone) id0 hlen').2
              simpa [retTg, tgSlots] using this
            cases h8 : Nat.ble (nobP (retTg sp.outs.length []) ks') 8 with
            | false => rw [h8] at h; cases h
            | true =>
              rw [h8] at h
              cases h
              refine ⟨p1, p2, ?_⟩
              show (mkA ks' z id0).2.length ≤ 8
              rw [mkA_nob, ← hnb]
              exact Nat.le_of_ble_eq_true h8
    · simp only [callK]
      cases hp : pkA hb sp.ins ds with
      | none => exact q2 hb s
      | some r0 =>
        obtain ⟨x, fro, lent⟩ := r0
        simp only
        obtain ⟨_, p3⟩ := pkA_rowish hall.1 hp
        rw [p3]
        cases hl : lentOk fro lent with
        | false => rfl
        | true =>
          simp only [cond_true]
          cases hy : sp.sem x with
          | none => rfl
          | some y =>
            simp only [Option.bind_some]
            obtain ⟨ks', z, hlen, he⟩ := splitK_eq' (sp.outs ++ backs sp.ins) y
            rw [he, he]
            have hlen' : (List.range sp.outs.length).length = ks'.length := by rw [hlen, hback, List.append_nil, List.length_range]
            cases h8 : Nat.ble (nobP (retTg sp.outs.length []) ks') 8 with
            | false => rfl
            | true =>
              simp only [cond_true, Option.map_some]
              have h1 := (fill_slots (List.range sp.outs.length) ks' z (fun _ => .one .skip) (goneAll (frz s.H fro) lent) id0 hlen').1
              have h1' : (fillS (fun _ => .one .skip) (goneAll (frz s.H fro) lent) id0 (retTg sp.outs.length []) ks' z).2 = setObs (goneAll (frz s.H fro) lent) id0 (mkA ks' z id0).2 := by
                simpa [retTg, tgSlots] using h1
              rw [h1', fill_e (retTg sp.outs.length []) ks' z (fun _ => .one .skip) (goneAll (frz s.H fro) lent) (fun _ => .gone) id0]

/-- What an operation does that writes to rows alone. -/
theorem eff_roww {id0 : Nat} {acc : Acc} {fz : Nat → Bool} {o : Oper} (ha : isRowW T o.op = true) (e : Nat → D) :
    ∃ q : (Nat → Ob) → Option (D × List Nat × List Nat × List Ob), (∀ hb r, q hb = some r → (∀ x ∈ r.2.1, ∃ E t xs, (hb x).vw = .row E t xs) ∧ (∀ x ∈ r.2.2.1, ∃ E t xs, hb x = .row E t xs) ∧ r.2.2.2.length ≤ 8) ∧
      ∀ H dt, eff P T ops id0 acc fz o e H dt = (q (hbl acc H)).map fun r => (r.1, setObs (goneAll (frz H r.2.1) r.2.2.1) id0 r.2.2.2, r.2.2.1 ++ r.2.1 ++ dt) := by
  unfold isRowW at ha
  cases hap : isApp o.op with
  | true =>
    obtain ⟨q, q1, q2⟩ := eff_app (P := P) (T := T) (ops := ops) (id0 := id0) (acc := acc) (fz := fz) hap e
    refine ⟨fun hb => (q hb).map fun r => (r.1, [], r.2.1, r.2.2), fun hb r h => ?_, fun H dt => ?_⟩
    · simp only [Option.map_eq_some_iff] at h
      obtain ⟨r', h', rfl⟩ := h
      obtain ⟨h1, h2⟩ := q1 hb r' h'
      exact ⟨by simp, h1, Nat.le_trans h2 (by omega)⟩
    · rw [q2]
      cases hq : q (hbl acc H) with
      | none => simp only [hq, Option.map_none]
      | some r =>
        simp only [hq, Option.map_some, List.append_nil]
        rfl
  | false =>
    rw [hap, Bool.false_or, Bool.and_eq_true] at ha
    obtain ⟨hw, hrc⟩ := ha
    generalize ho : o.op = op at hw hrc
    unfold isRowC at hrc
    split at hrc
    · rename_i g args tys
      cases hg : gq ops o e with
      | none => exact ⟨fun _ => none, fun hb r h => (by cases h), fun H dt => by unfold eff; rw [hg]; rfl⟩
      | some b =>
        cases b
        · exact ⟨fun _ => some (.one .skip, [], [], []), fun hb r h => (by cases h; simp), fun H dt => by unfold eff; rw [hg]; rfl⟩
        · obtain ⟨q, q1, q2⟩ := callK_row id0 (args.toList.map (evD e)) (T g) hrc
          refine ⟨q, q1, fun H dt => ?_⟩
          unfold eff
          rw [hg]
          simp only [ho, hw, cond_true]
          have hops : ((Op.call { callee := .value (.func g), args := args, argTypes := tys }).operands.toList.map (evD e)) = .v (.one (.fn g)) :: args.toList.map (evD e) := by
            simp [Op.operands, Call.operands, evD]
          rw [hops]
          have hwk : (wrK P T id0 (hbl acc H) (.call { callee := .value (.func g), args := args, argTypes := tys }) (.v (.one (.fn g)) :: args.toList.map (evD e)) { e := fun _ => .one .undef, H := H, nx := 0, dt := dt } fun s d => some (s, d)) =
              callK id0 (hbl acc H) (args.toList.map (evD e)) { e := fun _ => .one .undef, H := H, nx := 0, dt := dt } (fun s d => some (s, d)) (T g) := by
            simp only [wrK]
          rw [hwk, q2]
          cases q (hbl acc H) with
          | none => rfl
          | some r => rfl
    · cases hrc

theorem hid_of {i j : Nat} {a : Oper} (ha : ops[i]? = some a) (hap : isRowW T a.op = true) (h1 : (bef.getD i 0).testBit j = false) (h2 : (bef.getD j 0).testBit i = false) : (accOf T ops bef nx0 fz true j).hid = true := by
  show (true && hidOf T ops bef j) = true
  rw [Bool.true_and]
  unfold hidOf
  rw [List.any_eq_true]
  refine ⟨i, List.mem_range.2 (Array.getElem?_eq_some_iff.1 ha).1, ?_⟩
  rw [ha]
  simp only [hap, h1, h2, Bool.not_false, Bool.and_self]

theorem blind_see {i j : Nat} {a b : Oper} (ha : ops[i]? = some a) (hb : ops[j]? = some b) (hl : lookOnly b.op = true) (hw : wrVal T a.op = true) (h1 : (bef.getD i 0).testBit j = false) (h2 : (bef.getD j 0).testBit i = false) : ∀ id, (accOf T ops bef nx0 fz true j).see id = false := by
  intro id
  have hbl : blindOf T ops bef j = true := by
    unfold blindOf
    rw [hb, Bool.and_eq_true, List.any_eq_true]
    refine ⟨hl, i, List.mem_range.2 (Array.getElem?_eq_some_iff.1 ha).1, ?_⟩
    rw [ha]
    simp only [hw, h1, h2, Bool.not_false, Bool.and_self]
  unfold accOf
  simp only [hbl, Bool.and_self, Bool.not_true, Bool.false_and]

/-- An append and what is in no order to it. -/
theorem app_comm {i j : Nat} {a b : Oper} {dst dst' : Option Nat} {e0 : Nat → D} (hij : i ≠ j) (hap : isRowW T a.op = true) (hw : isWr T b.op = false) (ha : ops[i]? = some a)
    (h1 : (bef.getD i 0).testBit j = false) (h2 : (bef.getD j 0).testBit i = false) (e : Nat → D) (H : Nat → Ob) (dt : List Nat) (nx : Nat)
    (hcomm : ∀ d d', putE (putE e0 dst' d') dst d = putE (putE e0 dst d) dst' d') :
    ((eff P T ops (nx0 + 8 * j) (accOf T ops bef nx0 fz true j) fz b e H dt).bind fun r => (eff P T ops (nx0 + 8 * i) (accOf T ops bef nx0 fz true i) fz a e r.2.1 r.2.2).map fun q => ({ e := putE (putE e0 dst' r.1) dst q.1, H := q.2.1, nx := nx, dt := q.2.2 } : S)) =
    (eff P T ops (nx0 + 8 * i) (accOf T ops bef nx0 fz true i) fz a e H dt).bind fun r => (eff P T ops (nx0 + 8 * j) (accOf T ops bef nx0 fz true j) fz b e r.2.1 r.2.2).map fun q => ({ e := putE (putE e0 dst r.1) dst' q.1, H := q.2.1, nx := nx, dt := q.2.2 } : S) := by
  have hhid := hid_of (T := T) (nx0 := nx0) (fz := fz) ha hap h1 h2
  obtain ⟨qa, qap, qae⟩ := eff_roww (P := P) (T := T) (ops := ops) (id0 := nx0 + 8 * i) (acc := accOf T ops bef nx0 fz true i) (fz := fz) hap e
  obtain ⟨qb, qb8, qbe⟩ := eff_q (P := P) (T := T) (ops := ops) (id0 := nx0 + 8 * j) (acc := accOf T ops bef nx0 fz true j) (fz := fz) hw e
  simp only [qae, qbe]
  -- what the one makes the other one does not see
  have hbf : ∀ obs : List Ob, obs.length ≤ 8 → hbl (accOf T ops bef nx0 fz true i) (setObs H (nx0 + 8 * j) obs) = hbl (accOf T ops bef nx0 fz true i) H := by
    intro obs ho
    funext id
    unfold hbl
    by_cases hin : nx0 + 8 * j ≤ id ∧ id < nx0 + 8 * j + obs.length
    · rw [acc_far h1 id hin.1 (by omega)]; rfl
    · rw [(setObs_at obs H _ id).2 (by omega)]
  have hrow : ∀ x, (∃ E t xs, (hbl (accOf T ops bef nx0 fz true i) H x).vw = .row E t xs) → (accOf T ops bef nx0 fz true i).see x = true ∧ (H x).vwb = .no := by
    rintro x ⟨E, t, xs, hx⟩
    unfold hbl at hx
    cases hacc : (accOf T ops bef nx0 fz true i).see x with
    | false => rw [hacc] at hx; cases hx
    | true =>
      rw [hacc] at hx
      refine ⟨rfl, ?_⟩
      have hx' : (H x).vw = .row E t xs := hx
      cases e : H x <;> rw [e] at hx' <;> first | (cases hx'; done) | rfl
  have hvf : ∀ (f l : List Nat) (obs : List Ob), obs.length ≤ 8 → (∀ x ∈ f, ∃ E t xs, (hbl (accOf T ops bef nx0 fz true i) H x).vw = .row E t xs) → (∀ x ∈ l, ∃ E t xs, hbl (accOf T ops bef nx0 fz true i) H x = .row E t xs) → vwl (accOf T ops bef nx0 fz true j) (setObs (goneAll (frz H f) l) (nx0 + 8 * i) obs) = vwl (accOf T ops bef nx0 fz true j) H := by
    intro f l obs ho hf hl
    funext id
    unfold vwl
    rw [hhid]
    by_cases hin : nx0 + 8 * i ≤ id ∧ id < nx0 + 8 * i + obs.length
    · rw [acc_far h2 id hin.1 (by omega)]; rfl
    · rw [(setObs_at obs _ _ id).2 (by omega)]
      by_cases hm : id ∈ l
      · rw [(goneAll_at l _ id).1 hm]
        obtain ⟨E, t, xs, hx⟩ := hl id hm
        have := (hrow id ⟨E, t, xs, by rw [hx]; rfl⟩).2
        show (bif _ then Ob.gone.vwb else Vw.no) = (bif _ then (H id).vwb else Vw.no)
        rw [this]; rfl
      · rw [(goneAll_at l _ id).2 hm]
        by_cases hmf : id ∈ f
        · rw [(frz_at f H id).1 hmf]
          show (bif _ then (H id).freeze.vwb else Vw.no) = (bif _ then (H id).vwb else Vw.no)
          rw [Ob.freeze_vwb]
        · rw [(frz_at f H id).2 hmf]
  have hmix : ∀ (f l : List Nat) (oa ob : List Ob), oa.length ≤ 8 → ob.length ≤ 8 → (∀ x ∈ f, ∃ E t xs, (hbl (accOf T ops bef nx0 fz true i) H x).vw = .row E t xs) → (∀ x ∈ l, ∃ E t xs, hbl (accOf T ops bef nx0 fz true i) H x = .row E t xs) → setObs (goneAll (frz (setObs H (nx0 + 8 * j) ob) f) l) (nx0 + 8 * i) oa = setObs (setObs (goneAll (frz H f) l) (nx0 + 8 * i) oa) (nx0 + 8 * j) ob := by
    intro f l oa ob ho1 ho2 hf hl
    rw [setObs_comm (goneAll (frz H f) l) _ _ _ _ (by omega)]
    congr 1
    have hfn : ∀ x ∈ f, ¬ (nx0 + 8 * j ≤ x ∧ x < nx0 + 8 * j + ob.length) := by
      intro x hx hin
      have := (hrow x (hf x hx)).1
      rw [acc_far h1 x hin.1 (by omega)] at this
      cases this
    rw [frz_setObs hfn]
    funext id
    by_cases hin : nx0 + 8 * j ≤ id ∧ id < nx0 + 8 * j + ob.length
    · have hnm : id ∉ l := by
        intro hm
        obtain ⟨E, t, xs, hx⟩ := hl id hm
        unfold hbl at hx
        rw [acc_far h1 id hin.1 (by omega)] at hx
        cases hx
      have hi : id - (nx0 + 8 * j) < ob.length := by omega
      rw [(goneAll_at l _ id).2 hnm, (setObs_at ob (frz H f) _ id).1 _ _ (List.getElem?_eq_getElem hi) (by omega), (setObs_at ob (goneAll (frz H f) l) _ id).1 _ _ (List.getElem?_eq_getElem hi) (by omega)]
    · rw [(setObs_at ob (goneAll (frz H f) l) _ id).2 (by omega)]
      by_cases hm : id ∈ l
      · rw [(goneAll_at l _ id).1 hm, (goneAll_at l _ id).1 hm]
      · rw [(goneAll_at l _ id).2 hm, (goneAll_at l _ id).2 hm, (setObs_at ob (frz H f) _ id).2 (by omega)]
  have hnof : ∀ r, qb (vwl (accOf T ops bef nx0 fz true j) H) = some r → r.2.2 = [] := by
    intro r hr
    cases hids : r.2.2 with
    | nil => rfl
    | cons x l =>
      have := ((qb8 _ r.1 r.2.1 r.2.2 hr).2 x (by rw [hids]; exact .head _)).2
      rw [hhid] at this; cases this
  cases hqb : qb (vwl (accOf T ops bef nx0 fz true j) H) with
  | none =>
    cases hqa : qa (hbl (accOf T ops bef nx0 fz true i) H) with
    | none => rfl
    | some ra =>
      simp only [Option.map_none, Option.bind_none, Option.map_some, Option.bind_some]
      obtain ⟨p1, p2, p3⟩ := qap _ _ hqa
      rw [hvf _ _ _ p3 p1 p2, hqb]; rfl
  | some rb =>
    have hn := hnof rb hqb
    have h8 : rb.2.1.length ≤ 8 := (qb8 _ rb.1 rb.2.1 rb.2.2 hqb).1
    simp only [Option.map_some, Option.bind_some, hn]
    have hfr : frz H ([] : List Nat) = H := rfl
    rw [hfr, hbf _ h8]
    cases hqa : qa (hbl (accOf T ops bef nx0 fz true i) H) with
    | none => rfl
    | some ra =>
      simp only [Option.map_some, Option.bind_some]
      obtain ⟨p1, p2, p3⟩ := qap _ _ hqa
      rw [hvf _ _ _ p3 p1 p2, hqb]
      simp only [Option.map_some, hn]
      have hfr2 : ∀ H : Nat → Ob, frz H ([] : List Nat) = H := fun _ => rfl
      rw [hfr2, hcomm, hmix _ _ _ _ p3 h8 p1 p2]

theorem lkSt_see {i j : Nat} {a b : Oper} (ha : ops[i]? = some a) (hb : ops[j]? = some b) (hl : lookOnly a.op = true) (hs : isSt b.op = true) (h1 : (bef.getD i 0).testBit j = false) (h2 : (bef.getD j 0).testBit i = false) :
    ∀ id, (accOf T ops bef nx0 fz true i).see id = true → (accOf T ops bef nx0 fz true j).see id = false := by
  intro id
  have e1 : lkSt ops bef i = true := by
    unfold lkSt
    rw [ha, Bool.and_eq_true, List.any_eq_true]
    refine ⟨hl, j, List.mem_range.2 (Array.getElem?_eq_some_iff.1 hb).1, ?_⟩
    rw [hb]
    simp only [hs, h1, h2, Bool.not_false, Bool.and_self]
  have e2 : stLk ops bef j = true := by
    unfold stLk
    rw [hb, Bool.and_eq_true, List.any_eq_true]
    refine ⟨hs, i, List.mem_range.2 (Array.getElem?_eq_some_iff.1 ha).1, ?_⟩
    rw [ha]
    simp only [hl, h1, h2, Bool.not_false, Bool.and_self]
  unfold accOf
  cases hf : fz id <;> simp [e1, e2, hf]

/-- What looks and a store, in either order. -/
theorem st_comm {i j : Nat} {a b : Oper} {dst dst' : Option Nat} {e0 : Nat → D} (hl : lookOnly a.op = true) (hs : isSt b.op = true) (ha : ops[i]? = some a) (hb : ops[j]? = some b)
    (h1 : (bef.getD i 0).testBit j = false) (h2 : (bef.getD j 0).testBit i = false) (e : Nat → D) (H : Nat → Ob) (dt : List Nat) (nx : Nat)
    (hcomm : ∀ d d', putE (putE e0 dst d) dst' d' = putE (putE e0 dst' d') dst d) :
    ((eff P T ops (nx0 + 8 * i) (accOf T ops bef nx0 fz true i) fz a e H dt).bind fun r => (eff P T ops (nx0 + 8 * j) (accOf T ops bef nx0 fz true j) fz b e r.2.1 r.2.2).map fun q => ({ e := putE (putE e0 dst r.1) dst' q.1, H := q.2.1, nx := nx, dt := q.2.2 } : S)) =
    (eff P T ops (nx0 + 8 * j) (accOf T ops bef nx0 fz true j) fz b e H dt).bind fun r => (eff P T ops (nx0 + 8 * i) (accOf T ops bef nx0 fz true i) fz a e r.2.1 r.2.2).map fun q => ({ e := putE (putE e0 dst' r.1) dst q.1, H := q.2.1, nx := nx, dt := q.2.2 } : S) := by
  obtain ⟨q, hq⟩ := eff_look2 (P := P) (T := T) (ops := ops) (id0 := nx0 + 8 * i) (acc := accOf T ops bef nx0 fz true i) (fz := fz) hl e
  simp only [hq]
  cases hr : eff P T ops (nx0 + 8 * j) (accOf T ops bef nx0 fz true j) fz b e H dt with
  | none =>
    cases q (vwl (accOf T ops bef nx0 fz true i) H) with
    | none => rfl
    | some d => simp only [Option.map_some, Option.bind_some, hr]; rfl
  | some r =>
    have hfr := eff_st hs e hr
    have hv : vwl (accOf T ops bef nx0 fz true i) r.2.1 = vwl (accOf T ops bef nx0 fz true i) H := by
      funext id
      unfold vwl
      cases hse : (accOf T ops bef nx0 fz true i).see id with
      | false => rfl
      | true => rw [hfr id (lkSt_see (T := T) (nx0 := nx0) (fz := fz) ha hb hl hs h1 h2 id hse)]
    simp only [Option.bind_some, hv]
    cases q (vwl (accOf T ops bef nx0 fz true i) H) with
    | none => rfl
    | some d => simp only [Option.map_some, Option.bind_some, hr, hcomm]

/-- Two operations that no edge orders. -/
theorem step_comm {i j : Nat} {a b : Oper} (hij : i ≠ j) (ha : ops[i]? = some a) (hb : ops[j]? = some b) (hda : dstOk nt a.dst = true) (hdb : dstOk nt b.dst = true) (hc : commOps T ops a b = true)
    (h1 : (bef.getD i 0).testBit j = false) (h2 : (bef.getD j 0).testBit i = false) (s : S) :
    (stepD P T nt ops bef nx0 true fz i s).bind (stepD P T nt ops bef nx0 true fz j) = (stepD P T nt ops bef nx0 true fz j s).bind (stepD P T nt ops bef nx0 true fz i) := by
  obtain ⟨hcl, hab, hba⟩ := commOps_spec hc
  have ea : ∀ d H dt, eff P T ops (nx0 + 8 * i) (accOf T ops bef nx0 fz true i) fz a (putE s.e b.dst d) H dt = eff P T ops (nx0 + 8 * i) (accOf T ops bef nx0 fz true i) fz a s.e H dt := fun d H dt => eff_e (fun t ht => putE_same fun e => hba t e ht) H dt
  have eb : ∀ d H dt, eff P T ops (nx0 + 8 * j) (accOf T ops bef nx0 fz true j) fz b (putE s.e a.dst d) H dt = eff P T ops (nx0 + 8 * j) (accOf T ops bef nx0 fz true j) fz b s.e H dt := fun d H dt => eff_e (fun t ht => putE_same fun e => (hab t e).1 ht) H dt
  rw [stepD_eq ha hda, stepD_eq hb hdb]
  have hcomm : ∀ d d', putE (putE s.e a.dst d) b.dst d' = putE (putE s.e b.dst d') a.dst d := fun d d' => putE_comm fun t ht => (hab t ht).2
  have L : ((eff P T ops (nx0 + 8 * i) (accOf T ops bef nx0 fz true i) fz a s.e s.H s.dt).map fun r => ({ e := putE s.e a.dst r.1, H := r.2.1, nx := s.nx, dt := r.2.2 } : S)).bind (stepD P T nt ops bef nx0 true fz j) =
      (eff P T ops (nx0 + 8 * i) (accOf T ops bef nx0 fz true i) fz a s.e s.H s.dt).bind fun r => (eff P T ops (nx0 + 8 * j) (accOf T ops bef nx0 fz true j) fz b s.e r.2.1 r.2.2).map fun q => ({ e := putE (putE s.e a.dst r.1) b.dst q.1, H := q.2.1, nx := s.nx, dt := q.2.2 } : S) := by
    cases eff P T ops (nx0 + 8 * i) (accOf T ops bef nx0 fz true i) fz a s.e s.H s.dt with
    | none => rfl
    | some r => simp only [Option.map_some, Option.bind_some]; rw [stepD_eq hb hdb]; simp only [eb]
  have Rr : ((eff P T ops (nx0 + 8 * j) (accOf T ops bef nx0 fz true j) fz b s.e s.H s.dt).map fun r => ({ e := putE s.e b.dst r.1, H := r.2.1, nx := s.nx, dt := r.2.2 } : S)).bind (stepD P T nt ops bef nx0 true fz i) =
      (eff P T ops (nx0 + 8 * j) (accOf T ops bef nx0 fz true j) fz b s.e s.H s.dt).bind fun r => (eff P T ops (nx0 + 8 * i) (accOf T ops bef nx0 fz true i) fz a s.e r.2.1 r.2.2).map fun q => ({ e := putE (putE s.e b.dst r.1) a.dst q.1, H := q.2.1, nx := s.nx, dt := q.2.2 } : S) := by
    cases eff P T ops (nx0 + 8 * j) (accOf T ops bef nx0 fz true j) fz b s.e s.H s.dt with
    | none => rfl
    | some r => simp only [Option.map_some, Option.bind_some]; rw [stepD_eq ha hda]; simp only [ea]
  rw [L, Rr]
  rcases hcl with ⟨hwa, hwb⟩ | ht | ht | ⟨hap, hw⟩ | ⟨hap, hw⟩ | ⟨hlo, hwv⟩ | ⟨hlo, hwv⟩ | ⟨hlo, hst⟩ | ⟨hlo, hst⟩
  · obtain ⟨qa, qa8, qae⟩ := eff_q (P := P) (T := T) (ops := ops) (id0 := nx0 + 8 * i) (acc := accOf T ops bef nx0 fz true i) (fz := fz) hwa s.e
    obtain ⟨qb, qb8, qbe⟩ := eff_q (P := P) (T := T) (ops := ops) (id0 := nx0 + 8 * j) (acc := accOf T ops bef nx0 fz true j) (fz := fz) hwb s.e
    simp only [qae, qbe]
    cases hqa : qa (vwl (accOf T ops bef nx0 fz true i) s.H) with
    | none =>
      cases hqb : qb (vwl (accOf T ops bef nx0 fz true j) s.H) with
      | none => rfl
      | some rb =>
        simp only [Option.map_none, Option.bind_none, Option.map_some, Option.bind_some]
        rw [vwl_far (qb8 _ _ _ _ hqb).1 (acc_far h1), hqa]; rfl
    | some ra =>
      simp only [Option.map_some, Option.bind_some]
      rw [vwl_far (qa8 _ _ _ _ hqa).1 (acc_far h2)]
      cases hqb : qb (vwl (accOf T ops bef nx0 fz true j) s.H) with
      | none => rfl
      | some rb =>
        simp only [Option.map_some, Option.bind_some]
        rw [vwl_far (qb8 _ _ _ _ hqb).1 (acc_far h1), hqa]
        simp only [Option.map_some]
        have a1 : ra.2.1.length ≤ 8 := (qa8 _ _ _ _ hqa).1
        have a2 : ∀ i' ∈ ra.2.2, accOf T ops bef nx0 fz true i i' = true := fun q hq => ((qa8 _ _ _ _ hqa).2 q hq).1
        have b1 : rb.2.1.length ≤ 8 := (qb8 _ _ _ _ hqb).1
        have b2 : ∀ i' ∈ rb.2.2, accOf T ops bef nx0 fz true j i' = true := fun q hq => ((qb8 _ _ _ _ hqb).2 q hq).1
        rw [hcomm, both_comm (H := s.H) (a := nx0 + 8 * i) (b := nx0 + 8 * j) (oa := ra.2.1) (ob := rb.2.1) (ia := ra.2.2) (ib := rb.2.2) (by omega) (fun q hq hc => by have := acc_far (T := T) (ops := ops) (nx0 := nx0) (fz := fz) h1 q (by omega) (by omega); rw [a2 q hq] at this; cases this) (fun q hq hc => by have := acc_far (T := T) (ops := ops) (nx0 := nx0) (fz := fz) h2 q (by omega) (by omega); rw [b2 q hq] at this; cases this)]
  · obtain ⟨d?, hd⟩ := eff_tmp (P := P) (T := T) (ops := ops) (id0 := nx0 + 8 * i) (acc := accOf T ops bef nx0 fz true i) (fz := fz) ht s.e
    simp only [hd]
    cases d? with
    | none =>
      cases eff P T ops (nx0 + 8 * j) (accOf T ops bef nx0 fz true j) fz b s.e s.H s.dt <;> rfl
    | some d =>
      simp only [Option.map_some, Option.bind_some]
      cases eff P T ops (nx0 + 8 * j) (accOf T ops bef nx0 fz true j) fz b s.e s.H s.dt with
      | none => rfl
      | some q => simp only [Option.map_some, Option.bind_some, hcomm]
  · obtain ⟨d?, hd⟩ := eff_tmp (P := P) (T := T) (ops := ops) (id0 := nx0 + 8 * j) (acc := accOf T ops bef nx0 fz true j) (fz := fz) ht s.e
    simp only [hd]
    cases d? with
    | none =>
      cases eff P T ops (nx0 + 8 * i) (accOf T ops bef nx0 fz true i) fz a s.e s.H s.dt <;> rfl
    | some d =>
      simp only [Option.map_some, Option.bind_some]
      cases eff P T ops (nx0 + 8 * i) (accOf T ops bef nx0 fz true i) fz a s.e s.H s.dt with
      | none => rfl
      | some q => simp only [Option.map_some, Option.bind_some, hcomm]

  · exact (app_comm (ops := ops) (bef := bef) (fz := fz) (dst := a.dst) (dst' := b.dst) (e0 := s.e) hij hap hw ha h1 h2 s.e s.H s.dt s.nx fun d d' => (hcomm d d').symm).symm
  · exact app_comm (ops := ops) (bef := bef) (fz := fz) (dst := b.dst) (dst' := a.dst) (e0 := s.e) (Ne.symm hij) hap hw hb h2 h1 s.e s.H s.dt s.nx fun d d' => hcomm d' d
  · obtain ⟨d?, hd⟩ := eff_look (P := P) (T := T) (ops := ops) (id0 := nx0 + 8 * i) (acc := accOf T ops bef nx0 fz true i) (fz := fz) hlo (blind_see (nx0 := nx0) hb ha hlo hwv h2 h1) s.e
    simp only [hd]
    cases d? with
    | none =>
      cases eff P T ops (nx0 + 8 * j) (accOf T ops bef nx0 fz true j) fz b s.e s.H s.dt <;> rfl
    | some d =>
      simp only [Option.map_some, Option.bind_some]
      cases eff P T ops (nx0 + 8 * j) (accOf T ops bef nx0 fz true j) fz b s.e s.H s.dt with
      | none => rfl
      | some q => simp only [Option.map_some, Option.bind_some, hcomm]
  · obtain ⟨d?, hd⟩ := eff_look (P := P) (T := T) (ops := ops) (id0 := nx0 + 8 * j) (acc := accOf T ops bef nx0 fz true j) (fz := fz) hlo (blind_see (nx0 := nx0) ha hb hlo hwv h1 h2) s.e
    simp only [hd]
    cases d? with
    | none =>
      cases eff P T ops (nx0 + 8 * i) (accOf T ops bef nx0 fz true i) fz a s.e s.H s.dt <;> rfl
    | some d =>
      simp only [Option.map_some, Option.bind_some]
      cases eff P T ops (nx0 + 8 * i) (accOf T ops bef nx0 fz true i) fz a s.e s.H s.dt with
      | none => rfl
      | some q => simp only [Option.map_some, Option.bind_some, hcomm]
  · exact st_comm (ops := ops) (bef := bef) (fz := fz) (dst := a.dst) (dst' := b.dst) (e0 := s.e) hlo hst ha hb h1 h2 s.e s.H s.dt s.nx fun d d' => hcomm d d'
  · exact (st_comm (ops := ops) (bef := bef) (fz := fz) (dst := b.dst) (dst' := a.dst) (e0 := s.e) hlo hst hb ha h2 h1 s.e s.H s.dt s.nx fun d d' => (hcomm d' d).symm).symm

/-- An operation that hangs on none of those ahead of it comes first. -/
theorem run_bubble {i : Nat} : ∀ (A C : List Nat) (s : S), (∀ a ∈ A, ∀ s, (stepD P T nt ops bef nx0 true fz a s).bind (stepD P T nt ops bef nx0 true fz i) = (stepD P T nt ops bef nx0 true fz i s).bind (stepD P T nt ops bef nx0 true fz a)) →
    runD P T nt ops bef nx0 true fz (A ++ i :: C) s = (stepD P T nt ops bef nx0 true fz i s).bind (runD P T nt ops bef nx0 true fz (A ++ C))
  | [], C, s, _ => rfl
  | a :: A, C, s, h => by
    simp only [List.cons_append, runD]
    have ih : ∀ s, runD P T nt ops bef nx0 true fz (A ++ i :: C) s = (stepD P T nt ops bef nx0 true fz i s).bind (runD P T nt ops bef nx0 true fz (A ++ C)) := fun s => run_bubble A C s fun b hb => h b (.tail _ hb)
    have e1 : (stepD P T nt ops bef nx0 true fz a s).bind (runD P T nt ops bef nx0 true fz (A ++ i :: C)) = ((stepD P T nt ops bef nx0 true fz a s).bind (stepD P T nt ops bef nx0 true fz i)).bind (runD P T nt ops bef nx0 true fz (A ++ C)) := by
      rw [bind_comp]; congr 1; funext s'; exact ih s'
    rw [e1, h a (.head _) s, bind_comp]

end Go.Proofs.Fr

/- A region does what its plain form says, in whatever order it draws. -/
namespace Go.Proofs.Fr
open Go Go.RowKit
variable {R : Type} {P : Program} {T : Nat → List Sp} {nt : Nat} {ops : Array Oper} {bef : Array Nat} {nx0 : Nat} {dr : Bool} {fz : Nat → Bool} {B : Bs} {fr : Nat → Prop} {s s' : S} {g : Nat → Value} {a : Act} {w : World} {Q : Exit → Act → World → Prop}

/-- What a piece of code may change: slots, objects (told in dt). -/
def SExt (wr : Nat → Bool) (lim : Nat) (s s' : S) : Prop :=
  (∀ t, wr t = false → s'.e t = s.e t) ∧ s.nx ≤ s'.nx ∧ ∃ new, s'.dt = new ++ s.dt ∧ ∀ id, id < lim → id ∉ new → s'.H id = s.H id

theorem SExt.refl (wr : Nat → Bool) (lim : Nat) (s : S) : SExt wr lim s s := ⟨fun _ _ => rfl, Nat.le_refl _, [], rfl, fun _ _ _ => rfl⟩
theorem SExt.trans {wr wr' wr2 : Nat → Bool} {lim lim' : Nat} {s1 s2 s3 : S} (h : SExt wr lim s1 s2) (h' : SExt wr' lim' s2 s3) (hl : lim ≤ lim') (h1 : ∀ t, wr2 t = false → wr t = false) (h2 : ∀ t, wr2 t = false → wr' t = false) : SExt wr2 lim s1 s3 := by
  obtain ⟨a1, b1, n1, c1, d1⟩ := h
  obtain ⟨a2, b2, n2, c2, d2⟩ := h'
  refine ⟨fun t ht => (a2 t (h2 t ht)).trans (a1 t (h1 t ht)), Nat.le_trans b1 b2, n2 ++ n1, by rw [c2, c1, List.append_assoc], fun id hi hn => ?_⟩
  simp only [List.mem_append, not_or] at hn
  exact (d2 id (by omega) hn.1).trans (d1 id hi hn.2)

theorem hvw_of (acc : Acc) (H : Nat → Ob) : ∀ id, vwl acc H id = .no ∨ vwl acc H id = (H id).vw := by
  intro id
  unfold vwl
  cases acc id
  · exact .inl rfl
  · cases acc.hid
    · exact .inr rfl
    · cases H id <;> first | exact .inl rfl | exact .inr rfl
theorem hhb_of (acc : Acc) (H : Nat → Ob) : ∀ id, hbl acc H id = .gone ∨ hbl acc H id = H id := by
  intro id
  unfold hbl
  cases acc id
  · exact .inl rfl
  · exact .inr rfl

theorem wrK_ext (P : Program) (T : Nat → List Sp) (id0 : Nat) (hb : Nat → Ob) (op : Op) (ds : List D) (s : S) {r : S × D} (h : (wrK P T id0 hb op ds s fun s d => some (s, d)) = some r) : ∃ new, r.1.dt = new ++ s.dt ∧ ∀ id, id < id0 → id ∉ new → r.1.H id = s.H id := by
  unfold wrK at h
  split at h
  case h_6 =>
    split at h
    · exact callK_ext _ _ _ _ _ h
    · split at h
      · exact callK_ext _ _ _ _ _ h
      · cases h
    · cases h
  all_goals (try simp only [cond_eq_ite] at h)
  all_goals repeat' (first
    | (cases h; first
        | exact ⟨[], rfl, fun j hj _ => upd_ne _ _ (by omega)⟩
        | exact ⟨[_], rfl, fun j _ hn => upd_ne _ _ (by simpa using hn)⟩
        | exact ⟨[_], rfl, fun j hj hn => (upd_ne _ _ (by omega)).trans (upd_ne _ _ (by simpa using hn))⟩
        | exact ⟨_ :: _, rfl, fun j _ hn => by
            simp only [List.mem_cons, not_or] at hn
            exact (upd_ne _ _ hn.1).trans ((frz_at _ _ j).2 hn.2)⟩
        | done)
    | split at h
    | (dsimp only at h; split at h))

theorem Rel.dt_ (hr : Rel B nt fr s g a w) (x : List Nat) : Rel B nt fr { s with dt := x } g a w := ⟨hr.slots, hr.sold, hr.objs, hr.kold, hr.disj, hr.base, hr.frm, hr.fresh, hr.size, hr.dfr, hr.kp⟩

theorem opK_ext {id0 : Nat} {acc : Acc} {o : Oper} (h : opK P T id0 acc fz dr o s some = some s') : (∀ t, o.dst ≠ some t → s'.e t = s.e t) ∧ s'.nx = s.nx ∧ ∃ new, s'.dt = new ++ s.dt ∧ ∀ id, id < id0 → id ∉ new → fz id = false ∨ dr = false → s'.H id = s.H id := by
  unfold opK at h
  cases hw : isWr T o.op with
  | true =>
    rw [hw] at h
    simp only [cond_true] at h
    rw [wrK_nat (k := fun s' d => some (s'.put o.dst d))] at h
    cases hk : wrK P T id0 (hbl acc s.H) o.op (o.op.operands.toList.map (evD s.e)) s fun s d => some (s, d) with
    | none => rw [hk] at h; cases h
    | some r =>
      rw [hk] at h
      cases h
      obtain ⟨e1, e2⟩ := wrK_same _ _ _ _ _ _ _ hk
      obtain ⟨new, e3, e4⟩ := wrK_ext _ _ _ _ _ _ _ hk
      refine ⟨fun t ht => ?_, ?_, new, ?_, fun id h1 h2 _ => ?_⟩
      · rw [put_putE]; show putE r.1.e o.dst _ t = _; rw [putE_same ht, e1]
      · rw [put_putE]; exact e2
      · rw [put_putE]; exact e3
      · rw [put_putE]; exact e4 id h1 h2
  | false =>
    rw [hw] at h
    simp only [cond_false] at h
    rw [valK_nat (k := fun d obs ids => bif dr then (bif ids.all (fun i => fz i && (acc i && !acc.hid)) && Nat.ble obs.length 8 then some ({ s.commit o.dst id0 d obs ids with dt := s.dt } : S) else none) else some (s.commit o.dst id0 d obs ids))] at h
    cases hk : valK P T id0 (vwl acc s.H) o.op (o.op.operands.toList.map (evD s.e)) fun d o i => some ((d, o, i) : Eo) with
    | none => rw [hk] at h; cases h
    | some r =>
      rw [hk] at h
      obtain ⟨d, obs, ids⟩ := r
      simp only [Option.bind_some] at h
      cases dr with
      | true =>
        simp only [cond_true] at h
        cases hc : ids.all (fun i => fz i && (acc i && !acc.hid)) && Nat.ble obs.length 8 with
        | false => rw [hc] at h; cases h
        | true =>
          rw [hc] at h
          simp only [cond_true] at h
          cases h
          simp only [Bool.and_eq_true] at hc
          refine ⟨fun t ht => ?_, rfl, [], rfl, fun id hi _ hf => ?_⟩
          · show (s.put o.dst d).e t = _
            rw [put_putE]; exact putE_same ht
          · show setObs (frz s.H ids) id0 obs id = _
            rw [(setObs_at obs _ id0 id).2 (.inl hi), (frz_at ids s.H id).2 (fun hm => ?_)]
            have := List.all_eq_true.1 hc.1 id hm
            simp only [Bool.and_eq_true] at this
            rcases hf with hf | hf
            · rw [hf] at this; cases this.1
            · cases hf
      | false =>
        simp only [cond_false] at h
        cases h
        refine ⟨fun t ht => ?_, rfl, ids, rfl, fun id hi hn _ => ?_⟩
        · show (s.put o.dst d).e t = _
          rw [put_putE]; exact putE_same ht
        · show setObs (frz s.H ids) id0 obs id = _
          rw [(setObs_at obs _ id0 id).2 (.inl hi), (frz_at ids s.H id).2 hn]

theorem opK_sound (hT : ∀ f sp, sp ∈ T f → Sound P f sp) {id0 : Nat} {acc : Acc} {o : Oper} (hr : Rel B nt fr s g a w) (hfr : ∀ j, id0 ≤ j → j < id0 + 8 → fr j) (hd : dstOk nt o.dst = true) (h : opK P T id0 acc fz dr o s some = some s') :
    (∀ (next : Act → World → Prop) (Q : Exit → Act → World → Prop), (∀ g' a' w', Rel B nt (less fr id0) s' g' a' w' → next a' w') → o.wp P a w next Q) := by
  unfold opK at h
  cases hw : isWr T o.op with
  | true =>
    rw [hw] at h
    simp only [cond_true] at h
    obtain ⟨s1, d, hk, _, hg⟩ := wrK_sound hT (hhb_of acc s.H) hr hfr hd h
    cases hk
    exact hg
  | false =>
    rw [hw] at h
    simp only [cond_false] at h
    obtain ⟨d, obs, ids, hk, hg⟩ := valK_sound hT (hvw_of acc s.H) hr hfr hd h
    simp only at hk
    cases dr with
    | true =>
      simp only [cond_true] at hk
      cases hc : ids.all (fun i => fz i && (acc i && !acc.hid)) && Nat.ble obs.length 8 with
      | false => rw [hc] at hk; cases hk
      | true =>
        rw [hc] at hk
        simp only [cond_true] at hk
        cases hk
        exact fun next Q hn => hg next Q fun g' a' w' hrel => hn g' a' w' (hrel.dt_ s.dt)
    | false =>
      simp only [cond_false] at hk
      cases hk
      exact hg

theorem yield_of {t j : Nat} (hr : Rel B nt fr s g a w) (hj : (ops[j]?).bind (·.dst) = some t) :
    (∀ b, s.e t = .one (.bool b) → yielded ops a.tmps j = some b) ∧ (s.e t = .one .skip → yielded ops a.tmps j = none) := by
  have h := hr.slots t
  unfold yielded
  rw [hj]
  simp only [Option.bind_some]
  constructor
  · intro b hb
    rw [hb] at h
    have hv : a.tmps.getD t undef = .bool b := h
    rw [Array.getD_eq_getD_getElem?] at hv
    cases hq : a.tmps[t]? with
    | none => rw [hq] at hv; cases hv
    | some v => rw [hq] at hv; simp only [Option.getD_some] at hv; subst hv; rfl
  · intro hb
    rw [hb] at h
    have hv : a.tmps.getD t undef = undef := h
    rw [Array.getD_eq_getD_getElem?] at hv
    cases hq : a.tmps[t]? with
    | none => rfl
    | some v => rw [hq] at hv; simp only [Option.getD_some] at hv; subst hv; rfl

theorem step_sound (hT : ∀ f sp, sp ∈ T f → Sound P f sp) {i : Nat} (hr : Rel B nt fr s g a w) (hfr : ∀ j, nx0 + 8 * i ≤ j → j < nx0 + 8 * i + 8 → fr j) (h : stepD P T nt ops bef nx0 dr fz i s = some s') :
    (∀ (K : Act → World → Prop), (∀ g' a' w', Rel B nt (less fr (nx0 + 8 * i)) s' g' a' w' → K a' w') → wpOp P ops Q i K a w) := by
  unfold stepD at h
  cases ho : ops[i]? with
  | none => rw [ho] at h; cases h
  | some o =>
    rw [ho] at h
    simp only at h
    cases hd : dstOk nt o.dst with
    | false => rw [hd] at h; cases h
    | true =>
      rw [hd] at h
      simp only [cond_true] at h
      have hwr : ∀ t, wrOps ops.toList t = false → o.dst ≠ some t := by
        intro t ht e
        have hm : o ∈ ops.toList := by rw [Array.mem_toList_iff]; exact Array.mem_of_getElem? ho
        have : wrOps ops.toList t = true := List.any_eq_true.2 ⟨o, hm, by rw [e]; simp⟩
        rw [ht] at this; cases this
      cases hg : gq ops o s.e with
      | none => rw [hg] at h; cases h
      | some b =>
        rw [hg] at h
        have hw : Region.wanted o (yielded ops a.tmps) = b := by
          unfold Region.wanted
          unfold gq at hg
          cases hgd : o.guard with
          | none => rw [hgd] at hg; cases hg; rfl
          | some jw =>
            obtain ⟨j, want⟩ := jw
            rw [hgd] at hg
            simp only at hg ⊢
            cases ht : (ops[j]?).bind (·.dst) with
            | none => rw [ht] at hg; cases hg
            | some t =>
              rw [ht] at hg
              simp only at hg
              obtain ⟨y1, y2⟩ := yield_of (ops := ops) hr ht
              cases he : s.e t with
              | tup q => rw [he] at hg; cases hg
              | v d => cases d with
                | agg q => rw [he] at hg; cases hg
                | one l =>
                  rw [he] at hg
                  cases l <;> first | (cases hg; done) | skip
                  · cases hg; rw [y2 he]; rfl
                  · rename_i b'
                    cases hg
                    rw [y1 b' he]
                    cases b' <;> cases want <;> rfl
        cases b with
        | true =>
          simp only at h
          have q1 := opK_sound hT hr hfr hd h
          intro K hK
          unfold wpOp
          rw [ho]
          simp only [hw, if_true]
          exact .inl (q1 K Q hK)
        | false =>
          cases h
          intro K hK
          unfold wpOp
          rw [ho]
          simp only [hw, Bool.false_eq_true, if_false]
          exact hK g _ _ ((hr.weak fun j hj => hj.1).put_ hd rfl (by simp [D.ids, D0.ids, D0.ls, L.ids]))

/-- What some steps change: but what the region is told to freeze. -/
def DExt (wr : Nat → Bool) (lim : Nat) (fz : Nat → Bool) (dr : Bool) (s s' : S) : Prop :=
  (∀ t, wr t = false → s'.e t = s.e t) ∧ s.nx ≤ s'.nx ∧ ∃ new, s'.dt = new ++ s.dt ∧ ∀ id, id < lim → id ∉ new → fz id = false ∨ dr = false → s'.H id = s.H id
theorem DExt.refl (wr : Nat → Bool) (lim : Nat) (s : S) : DExt wr lim fz dr s s := ⟨fun _ _ => rfl, Nat.le_refl _, [], rfl, fun _ _ _ _ => rfl⟩
theorem DExt.trans {wr : Nat → Bool} {lim : Nat} {s1 s2 s3 : S} (h : DExt wr lim fz dr s1 s2) (h' : DExt wr lim fz dr s2 s3) : DExt wr lim fz dr s1 s3 := by
  obtain ⟨a1, b1, n1, c1, d1⟩ := h
  obtain ⟨a2, b2, n2, c2, d2⟩ := h'
  refine ⟨fun t ht => (a2 t ht).trans (a1 t ht), Nat.le_trans b1 b2, n2 ++ n1, by rw [c2, c1, List.append_assoc], fun id hi hn hf => ?_⟩
  simp only [List.mem_append, not_or] at hn
  exact (d2 id hi hn.1 hf).trans (d1 id hi hn.2 hf)

theorem step_ext {i : Nat} (h : stepD P T nt ops bef nx0 dr fz i s = some s') : DExt (wrOps ops.toList) nx0 fz dr s s' := by
  unfold stepD at h
  cases ho : ops[i]? with
  | none => rw [ho] at h; cases h
  | some o =>
    rw [ho] at h
    simp only at h
    have hwr : ∀ t, wrOps ops.toList t = false → o.dst ≠ some t := by
      intro t ht e
      have hm : o ∈ ops.toList := by rw [Array.mem_toList_iff]; exact Array.mem_of_getElem? ho
      have : wrOps ops.toList t = true := List.any_eq_true.2 ⟨o, hm, by rw [e]; simp⟩
      rw [ht] at this; cases this
    cases hd : dstOk nt o.dst with
    | false => rw [hd] at h; cases h
    | true =>
      rw [hd] at h
      simp only [cond_true] at h
      cases hg : gq ops o s.e with
      | none => rw [hg] at h; cases h
      | some b =>
        rw [hg] at h
        cases b with
        | true =>
          obtain ⟨q2, q3, new, q4, q5⟩ := opK_ext h
          exact ⟨fun t ht => q2 t (hwr t ht), Nat.le_of_eq q3.symm, new, q4, fun id hi hn hf => q5 id (by omega) hn hf⟩
        | false =>
          cases h
          exact ⟨fun t ht => by rw [put_putE]; exact putE_same (hwr t ht), by rw [put_putE]; exact Nat.le_refl _, [], by rw [put_putE]; rfl, fun id _ _ _ => by rw [put_putE]⟩

theorem run_ext : ∀ (L : List Nat) (s sf : S), runD P T nt ops bef nx0 dr fz L s = some sf → DExt (wrOps ops.toList) nx0 fz dr s sf
  | [], s, sf, h => by cases h; exact DExt.refl _ _ _
  | i :: r, s, sf, h => by
    simp only [runD] at h
    cases hs : stepD P T nt ops bef nx0 dr fz i s with
    | none => rw [hs] at h; cases h
    | some s1 =>
      rw [hs] at h
      exact (step_ext hs).trans (run_ext r s1 sf h)

/-- The names that are still free. -/
def frL (nx0 n : Nat) (L : List Nat) : Nat → Prop := fun id => nx0 + 8 * n ≤ id ∨ ∃ i ∈ L, nx0 + 8 * i ≤ id ∧ id < nx0 + 8 * i + 8

theorem text_sound (hT : ∀ f sp, sp ∈ T f → Sound P f sp) : ∀ (L : List Nat) {s sf : S} {g : Nat → Value} {a : Act} {w : World}, L.Nodup → (∀ i ∈ L, i < ops.size) → Rel B nt (frL nx0 ops.size L) s g a w → runD P T nt ops bef nx0 dr fz L s = some sf →
    ((∀ g' a' w', Rel B nt (frL nx0 ops.size []) sf g' a' w' → Q .normal a' w') → wpOps P ops Q L a w)
  | [], s, sf, g, a, w, _, _, hr, h => by
    cases h
    exact fun hQ => hQ g a w hr
  | i :: r, s, sf, g, a, w, hn, hlt, hr, h => by
    simp only [runD] at h
    cases hs : stepD P T nt ops bef nx0 dr fz i s with
    | none => rw [hs] at h; cases h
    | some s1 =>
      rw [hs] at h
      simp only [Option.bind_some] at h
      have h1 := step_sound (Q := Q) hT hr (fun j h1 h2 => .inr ⟨i, .head _, h1, h2⟩) hs
      have hi := hlt i (.head _)
      have hsub : ∀ j, frL nx0 ops.size r j → less (frL nx0 ops.size (i :: r)) (nx0 + 8 * i) j := by
        intro j hj
        rcases hj with hj | ⟨q, hq, hq1, hq2⟩
        · exact ⟨.inl hj, by omega⟩
        · refine ⟨.inr ⟨q, .tail _ hq, hq1, hq2⟩, fun hh => ?_⟩
          have : q = i := by omega
          subst this
          exact (List.nodup_cons.1 hn).1 hq
      have ih : ∀ g' a' w', Rel B nt (less (frL nx0 ops.size (i :: r)) (nx0 + 8 * i)) s1 g' a' w' → ((∀ g' a' w', Rel B nt (frL nx0 ops.size []) sf g' a' w' → Q .normal a' w') → wpOps P ops Q r a' w') :=
        fun g' a' w' hr' => text_sound hT r (List.nodup_cons.1 hn).2 (fun j hj => hlt j (.tail _ hj)) (hr'.weak hsub) h
      intro hQ
      rw [wpOps_cons]
      exact h1 _ fun g' a' w' hr' => ih g' a' w' hr' hQ


/-! orders that are drawn -/

def remOf (ops : Array Oper) (listed : Array Bool) : List Nat := (List.range ops.size).filter fun i => !listed.getD i true

theorem befOk_spec (h : befOk ops bef = true) {j : Nat} {o : Oper} (ho : ops[j]? = some o) : (∀ e ∈ o.after, Region.binds .any e = true → e.on < j) ∧
    ∀ i, i < ops.size → (bef.getD j 0).testBit i = true → i < j ∧ ∃ e ∈ o.after, Region.binds .any e = true ∧ (e.on = i ∨ (bef.getD e.on 0).testBit i = true) := by
  have hj : j < ops.size := (Array.getElem?_eq_some_iff.1 ho).1
  unfold befOk at h
  have := List.all_eq_true.1 h j (List.mem_range.2 hj)
  rw [ho] at this
  simp only [Bool.and_eq_true] at this
  obtain ⟨h1, h2⟩ := this
  refine ⟨fun e he hb => ?_, fun i hi hb => ?_⟩
  · have := List.all_eq_true.1 h1 e (by simpa using he)
    simpa [hb, Nat.blt_eq] using this
  · have := List.all_eq_true.1 h2 i (List.mem_range.2 hi)
    rw [hb] at this
    simp only [Bool.not_true, Bool.false_or, Bool.and_eq_true, Nat.blt_eq] at this
    obtain ⟨q1, q2⟩ := this
    obtain ⟨e, he, hq⟩ := List.any_eq_true.1 q2
    simp only [Bool.and_eq_true, Bool.or_eq_true] at hq
    refine ⟨q1, e, by simpa using he, hq.1, ?_⟩
    rcases hq.2 with h | h
    · exact .inl (Nat.eq_of_beq_eq_true h)
    · exact .inr h

theorem drawOk_spec {mx : Bool} (h : drawOk T mx ops bef = true) : (mx || !(Region.departs ops)) = true ∧ befOk ops bef = true ∧ ∀ i j a b, i < j → ops[i]? = some a → ops[j]? = some b → (bef.getD j 0).testBit i = false → commOps T ops a b = true := by
  unfold drawOk at h
  rw [Bool.and_eq_true, Bool.and_eq_true] at h
  obtain ⟨⟨h1, h2⟩, h3⟩ := h
  refine ⟨h1, h2, fun i j a b hij ha hb hbit => ?_⟩
  have hj : j < ops.size := (Array.getElem?_eq_some_iff.1 hb).1
  have := List.all_eq_true.1 (List.all_eq_true.1 h3 j (List.mem_range.2 hj)) i (List.mem_range.2 hij)
  rw [ha, hb, hbit] at this
  simpa using this

/-- What is listed has all listed on which it hangs. -/
def closedL (ops : Array Oper) (bef : Array Nat) (listed : Array Bool) : Prop := ∀ i, i < ops.size → listed.getD i true = true → ∀ k, k < ops.size → (bef.getD i 0).testBit k = true → listed.getD k true = true

theorem mem_rem {listed : Array Bool} {i : Nat} : i ∈ remOf ops listed ↔ i < ops.size ∧ listed.getD i true = false := by
  simp [remOf]

theorem mem_ready {listed : Array Bool} {i : Nat} : i ∈ Region.ready .any ops listed ↔ i < ops.size ∧ listed.getD i true = false ∧ ∃ o, ops[i]? = some o ∧ ∀ e ∈ o.after, Region.binds .any e = true → listed.getD e.on false = true := by
  unfold Region.ready
  simp only [List.mem_filter, List.mem_range, Bool.and_eq_true, Bool.not_eq_true']
  constructor
  · rintro ⟨h1, h2, h3⟩
    refine ⟨h1, h2, ?_⟩
    rw [Array.getElem?_eq_getElem h1] at h3
    refine ⟨ops[i], Array.getElem?_eq_getElem h1, fun e he hb => ?_⟩
    simp only [Option.map_some, Option.getD_some] at h3
    have := Array.all_eq_true'.1 h3 e he
    simpa [hb] using this
  · rintro ⟨h1, h2, o, ho, h3⟩
    refine ⟨h1, h2, ?_⟩
    rw [ho]
    simp only [Option.map_some, Option.getD_some]
    refine Array.all_eq_true'.2 fun e he => ?_
    cases hb : Region.binds .any e with
    | false => rfl
    | true => rw [h3 e he hb]; rfl

theorem getD_tf {listed : Array Bool} {i : Nat} (h : listed.getD i false = true) : listed.getD i true = true := by
  simp only [Array.getD_eq_getD_getElem?] at *
  cases hq : listed[i]? with
  | none => rw [hq] at h; cases h
  | some b => rw [hq] at h; simpa using h

theorem rem_split {listed : Array Bool} (hsz : listed.size = ops.size) {i : Nat} (hi : i ∈ remOf ops listed) : ∃ A C, remOf ops listed = A ++ i :: C ∧ remOf ops (listed.setIfInBounds i true) = A ++ C ∧ (∀ a ∈ A, a < i) ∧ (∀ c ∈ C, i < c) := by
  obtain ⟨hlt, hf⟩ := mem_rem.1 hi
  have hs : List.range ops.size = List.range i ++ i :: (List.range' (i + 1) (ops.size - (i + 1))) := by
    rw [List.range_eq_range', List.range_eq_range']
    have h1 : List.range' 0 ops.size = List.range' 0 i ++ List.range' (0 + i) (ops.size - i) := by
      rw [List.range'_append_1]; congr 1; omega
    rw [h1, Nat.zero_add]
    congr 1
    have : ops.size - i = (ops.size - (i + 1)) + 1 := by omega
    rw [this, List.range'_succ]
  have hset : ∀ k, k ≠ i → (listed.setIfInBounds i true).getD k true = listed.getD k true := by
    intro k hk
    simp [Array.getD_eq_getD_getElem?, Ne.symm hk]
  have hseti : (listed.setIfInBounds i true).getD i true = true := by
    simp [Array.getD_eq_getD_getElem?, hsz, hlt]
  refine ⟨(List.range i).filter fun k => !listed.getD k true, (List.range' (i + 1) (ops.size - (i + 1))).filter fun k => !listed.getD k true, ?_, ?_, ?_, ?_⟩
  · unfold remOf
    rw [hs, List.filter_append, List.filter_cons]
    simp [hf]
  · unfold remOf
    rw [hs, List.filter_append, List.filter_cons]
    simp only [hseti, Bool.not_true, Bool.false_eq_true, if_false]
    congr 1
    · refine List.filter_congr fun k hk => ?_
      rw [hset k (by have := List.mem_range.1 hk; omega)]
    · refine List.filter_congr fun k hk => ?_
      rw [hset k (by have := List.mem_range'_1.1 hk; omega)]
  · intro a ha; exact List.mem_range.1 (List.mem_filter.1 ha).1
  · intro c hc; have := List.mem_range'_1.1 (List.mem_filter.1 hc).1; omega

theorem dst_of_run : ∀ (L : List Nat) (s sf : S), runD P T nt ops bef nx0 true fz L s = some sf → ∀ i ∈ L, ∃ o, ops[i]? = some o ∧ dstOk nt o.dst = true
  | [], _, _, _, i, hi => by cases hi
  | j :: r, s, sf, h, i, hi => by
    simp only [runD] at h
    cases hs : stepD P T nt ops bef nx0 true fz j s with
    | none => rw [hs] at h; cases h
    | some s1 =>
      rw [hs] at h
      rcases List.mem_cons.1 hi with rfl | hi
      · unfold stepD at hs
        cases ho : ops[i]? with
        | none => rw [ho] at hs; cases hs
        | some o =>
          rw [ho] at hs
          simp only at hs
          refine ⟨o, rfl, ?_⟩
          cases hd : dstOk nt o.dst with
          | true => rfl
          | false => rw [hd] at hs; cases hs
      · exact dst_of_run r s1 sf h i hi

theorem any_sound (hT : ∀ f sp, sp ∈ T f → Sound P f sp) {mx : Bool} (hok : drawOk T mx ops bef = true) : ∀ (fuel : Nat) (listed : Array Bool) {s sf : S} {g : Nat → Value} {a : Act} {w : World}, listed.size = ops.size → (remOf ops listed).length ≤ fuel → closedL ops bef listed →
    Rel B nt (frL nx0 ops.size (remOf ops listed)) s g a w → runD P T nt ops bef nx0 true fz (remOf ops listed) s = some sf → (∀ g' a' w', Rel B nt (frL nx0 ops.size []) sf g' a' w' → Q .normal a' w') → wpAny P .any ops Q fuel listed a w := by
  obtain ⟨_, hbef, hcomm⟩ := drawOk_spec hok
  -- where all is listed
  have done : ∀ (listed : Array Bool) {s sf : S} {g : Nat → Value} {a : Act} {w : World}, listed.size = ops.size → remOf ops listed = [] → Rel B nt (frL nx0 ops.size (remOf ops listed)) s g a w → runD P T nt ops bef nx0 true fz (remOf ops listed) s = some sf → (∀ g' a' w', Rel B nt (frL nx0 ops.size []) sf g' a' w' → Q .normal a' w') → Q .normal a w := by
    intro listed s sf g a w _ h0 hr hrun hQ
    rw [h0] at hr hrun
    cases hrun
    exact hQ g a w hr
  -- the first that is left is ready
  have first : ∀ (listed : Array Bool), listed.size = ops.size → Region.ready .any ops listed = [] → remOf ops listed = [] := by
    intro listed hsz h0
    cases hrem : remOf ops listed with
    | nil => rfl
    | cons i r =>
      exfalso
      have hi : i ∈ remOf ops listed := by rw [hrem]; exact .head _
      obtain ⟨A, C, e1, _, hA, _⟩ := rem_split hsz hi
      have hA0 : A = [] := by
        cases A with
        | nil => rfl
        | cons x A =>
          rw [hrem] at e1
          simp only [List.cons_append, List.cons.injEq] at e1
          have := hA x (.head _)
          omega
      obtain ⟨hlt, hf⟩ := mem_rem.1 hi
      have ho := Array.getElem?_eq_getElem hlt
      have hready : i ∈ Region.ready .any ops listed := mem_ready.2 ⟨hlt, hf, _, ho, fun e he hb => by
        have hlt' := (befOk_spec hbef ho).1 e he hb
        cases hc : listed.getD e.on false with
        | true => rfl
        | false =>
          exfalso
          have hm : e.on ∈ remOf ops listed := mem_rem.2 ⟨by omega, by
            simp only [Array.getD_eq_getD_getElem?] at hc ⊢
            rw [Array.getElem?_eq_getElem (by omega)] at hc ⊢
            simpa using hc⟩
          rw [e1, hA0, List.nil_append] at hm
          rcases List.mem_cons.1 hm with h | h
          · omega
          · obtain ⟨A', C', e1', _, hA', hC'⟩ := rem_split hsz hi
            have := hA0
            subst this
            simp only [List.nil_append] at e1
            rw [e1] at e1'
            cases A' with
            | nil => simp only [List.nil_append, List.cons.injEq, true_and] at e1'; subst e1'; have := hC' _ h; omega
            | cons x A' => simp only [List.cons_append, List.cons.injEq] at e1'; have := hA' x (.head _); omega⟩
      rw [h0] at hready
      cases hready
  intro fuel
  induction fuel with
  | zero =>
    intro listed s sf g a w hsz hl _ hr hrun hQ
    have h0 : remOf ops listed = [] := List.eq_nil_of_length_eq_zero (by omega)
    refine ⟨?_, done listed hsz h0 hr hrun hQ⟩
    cases hrd : Region.ready .any ops listed with
    | nil => rfl
    | cons i r =>
      have hi : i ∈ Region.ready .any ops listed := by rw [hrd]; exact .head _
      obtain ⟨h1, h2, _⟩ := mem_ready.1 hi
      have : i ∈ remOf ops listed := mem_rem.2 ⟨h1, h2⟩
      rw [h0] at this; cases this
  | succ fuel ih =>
    intro listed s sf g a w hsz hl hcl hr hrun hQ
    refine ⟨fun h0 => done listed hsz (first listed hsz h0) hr hrun hQ, fun i hi => ?_⟩
    obtain ⟨hlt, hf, o, ho, hpre⟩ := mem_ready.1 hi
    have hir : i ∈ remOf ops listed := mem_rem.2 ⟨hlt, hf⟩
    obtain ⟨A, C, e1, e2, hA, hC⟩ := rem_split hsz hir
    have hdst := dst_of_run _ _ _ hrun
    obtain ⟨o', ho', hdo⟩ := hdst i hir
    rw [ho] at ho'; cases ho'
    -- it hangs on none that is left
    have hbit : ∀ k, k ∈ remOf ops listed → (bef.getD i 0).testBit k = false := by
      intro k hk
      obtain ⟨hkl, hkf⟩ := mem_rem.1 hk
      cases hb : (bef.getD i 0).testBit k with
      | false => rfl
      | true =>
        exfalso
        obtain ⟨_, e, he, hbd, hor⟩ := (befOk_spec hbef ho).2 k hkl hb
        have hle := getD_tf (hpre e he hbd)
        rcases hor with rfl | hor
        · rw [hkf] at hle; cases hle
        · have hlt' := (befOk_spec hbef ho).1 e he hbd
          have := hcl e.on (by omega) hle k hkl hor
          rw [hkf] at this; cases this
    have hbub : runD P T nt ops bef nx0 true fz (A ++ i :: C) s = (stepD P T nt ops bef nx0 true fz i s).bind (runD P T nt ops bef nx0 true fz (A ++ C)) := by
      refine run_bubble A C s fun b hb s' => ?_
      have hbr : b ∈ remOf ops listed := by rw [e1]; exact List.mem_append.2 (.inl hb)
      obtain ⟨ob, hob, hdb⟩ := hdst b hbr
      have hbi := hA b hb
      have hib : (bef.getD b 0).testBit i = false := by
        cases hq : (bef.getD b 0).testBit i with
        | false => rfl
        | true => have := ((befOk_spec hbef hob).2 i hlt hq).1; omega
      exact step_comm (by omega) hob ho hdb hdo (hcomm b i ob o hbi hob ho (hbit b hbr)) hib (hbit b hbr) s'
    rw [e1] at hrun
    rw [hbub] at hrun
    cases hs : stepD P T nt ops bef nx0 true fz i s with
    | none => rw [hs] at hrun; cases hrun
    | some s1 =>
      rw [hs] at hrun
      simp only [Option.bind_some] at hrun
      have h1 := step_sound (Q := Q) hT hr (fun j h1 h2 => .inr ⟨i, hir, h1, h2⟩) hs
      refine h1 _ fun g' a' w' hr' => ?_
      refine ih (listed.setIfInBounds i true) (by simpa using hsz) ?_ ?_ (hr'.weak fun j hj => ?_) (by rw [e2]; exact hrun) hQ
      · rw [e2]; rw [e1] at hl; simp only [List.length_append, List.length_cons] at hl ⊢; omega
      · intro q hq hql k hkl hb
        by_cases hki : k = i
        · subst hki
          simp [Array.getD_eq_getD_getElem?, hsz, hlt]
        · have hset : ∀ k, k ≠ i → (listed.setIfInBounds i true).getD k true = listed.getD k true := by
            intro k hk
            simp [Array.getD_eq_getD_getElem?, Ne.symm hk]
          rw [hset k hki]
          by_cases hqi : q = i
          · subst hqi
            cases hc : listed.getD k true with
            | true => rfl
            | false =>
              have := hbit k (mem_rem.2 ⟨hkl, hc⟩)
              rw [hb] at this; cases this
          · rw [hset q hqi] at hql
            exact hcl q hq hql k hkl hb
      · rw [e2] at hj
        rw [e1]
        rcases hj with hj | ⟨q, hq, hq1, hq2⟩
        · exact ⟨.inl hj, by omega⟩
        · refine ⟨.inr ⟨q, ?_, hq1, hq2⟩, fun hh => ?_⟩
          · rcases List.mem_append.1 hq with h | h
            · exact List.mem_append.2 (.inl h)
            · exact List.mem_append.2 (.inr (.tail _ h))
          · have : q = i := by omega
            subst this
            rcases List.mem_append.1 hq with h | h
            · have := hA q h; omega
            · have := hC q h; omega

theorem Rel.draw (hr : Rel B nt fr s g a w) (n : Nat) : Rel B nt fr s g a { w with drawn := n } :=
  Rel.step (w' := { w with drawn := n }) (s' := s) (g' := g) hr (fun _ => False) rfl (fun _ h => h) (fun _ _ => ⟨rfl, rfl⟩) (fun _ h => h.elim) (fun _ _ h => h.elim) (fun _ _ _ h => h.elim) (fun _ _ _ => rfl) rfl rfl rfl (Nat.le_refl _) (fun _ _ _ h => h.elim) (fun _ h => h.elim) hr.fresh

/-- A region. -/
theorem region_sound (hT : ∀ f sp, sp ∈ T f → Sound P f sp) {id : Nat} {s : S} {g : Nat → Value} {a : Act} {w : World} {k : S → Option R} {r : R} {L : List Nat} (hr : Rel B nt (fun j => s.nx ≤ j) s g a w)
    (h : (bif !dr || drawOk T (P.follows .mixedOrders) ops (Region.before ops) then regK P T nt ops (bif dr then Region.before ops else #[]) s.nx dr (fzOf s.nx L) (List.range ops.size) { s with dt := L ++ s.dt } k else none) = some r) :
    ∃ s', k s' = some r ∧ SExt (wrOps ops.toList) s.nx s s' ∧ ((∀ g' a' w', Rel B nt (fun j => s'.nx ≤ j) s' g' a' w' → Q .normal a' w') → (Code.region id ops dr).wp P Q a w) := by
  have h0 : frL s.nx ops.size (List.range ops.size) = fun j => s.nx ≤ j := by
    funext j
    refine propext ⟨fun hj => ?_, fun hj => ?_⟩
    · rcases hj with hj | ⟨i, _, hj, _⟩ <;> omega
    · by_cases hlt : s.nx + 8 * ops.size ≤ j
      · exact .inl hlt
      · exact .inr ⟨(j - s.nx) / 8, List.mem_range.2 (by omega), by omega, by omega⟩
  have h1 : ∀ sf : S, frL s.nx ops.size [] = fun j => (s.nx + 8 * ops.size) ≤ j := fun sf => by
    funext j
    refine propext ⟨fun hj => ?_, fun hj => .inl hj⟩
    rcases hj with hj | ⟨i, hi, _⟩
    · exact hj
    · cases hi
  have fin : ∀ sf : S, ∀ g' a' w', Rel B nt (frL s.nx ops.size []) sf g' a' w' → Rel B nt (fun j => ({ sf with nx := s.nx + 8 * ops.size } : S).nx ≤ j) { sf with nx := s.nx + 8 * ops.size } g' a' w' := by
    intro sf g' a' w' hrel
    rw [h1 sf] at hrel
    exact ⟨hrel.slots, hrel.sold, hrel.objs, hrel.kold, hrel.disj, hrel.base, hrel.frm, hrel.fresh, hrel.size, hrel.dfr, hrel.kp⟩
  have ext : ∀ {bef : Array Nat} {sf : S}, runD P T nt ops bef s.nx dr (fzOf s.nx L) (List.range ops.size) { s with dt := L ++ s.dt } = some sf → SExt (wrOps ops.toList) s.nx s { sf with nx := s.nx + 8 * ops.size } := by
    intro bef sf hrun
    obtain ⟨x1, x2, new, x3, x4⟩ := run_ext _ _ _ hrun
    refine ⟨x1, by show s.nx ≤ s.nx + 8 * ops.size; omega, new ++ L, by show sf.dt = _; rw [x3, List.append_assoc], fun id hid hn => ?_⟩
    simp only [List.mem_append, not_or] at hn
    refine x4 id hid hn.1 (.inl ?_)
    unfold fzOf
    have e1 : Nat.ble s.nx id = false := by
      cases hq : Nat.ble s.nx id
      · rfl
      · have := Nat.le_of_ble_eq_true hq; omega
    rw [e1, Bool.false_or]
    simpa using hn.2
  have hr1 : Rel B nt (fun j => s.nx ≤ j) { s with dt := L ++ s.dt } g a w := hr.dt_ _
  rw [← h0] at hr1
  cases dr with
  | false =>
    simp only [Bool.not_false, Bool.true_or, cond_true, cond_false] at h
    rw [regK_eq] at h
    cases hrun : runD P T nt ops #[] s.nx false (fzOf s.nx L) (List.range ops.size) { s with dt := L ++ s.dt } with
    | none => rw [hrun] at h; cases h
    | some sf =>
      rw [hrun] at h
      exact ⟨_, h, ext hrun, fun hQ => wp_region (text_sound (Q := Q) hT _ List.nodup_range (fun i hi => List.mem_range.1 hi) hr1 hrun fun g' a' w' hrel => hQ g' a' w' (fin sf g' a' w' hrel))⟩
  | true =>
    simp only [Bool.not_true, Bool.false_or, cond_true] at h
    cases hok : drawOk T (P.follows .mixedOrders) ops (Region.before ops) with
    | false => rw [hok] at h; cases h
    | true =>
      rw [hok] at h
      simp only [cond_true] at h
      rw [regK_eq] at h
      cases hrun : runD P T nt ops (Region.before ops) s.nx true (fzOf s.nx L) (List.range ops.size) { s with dt := L ++ s.dt } with
      | none => rw [hrun] at h; cases h
      | some sf =>
        rw [hrun] at h
        refine ⟨_, h, ext hrun, fun hQ => wp_region_draw fun t => ?_⟩
        have hdep := (drawOk_spec hok).1
        simp only [Region.schedule, hdep, if_true]
        have hrem : remOf ops (Array.replicate ops.size false) = List.range ops.size := by
          unfold remOf
          rw [List.filter_eq_self]
          intro i hi
          simp [Array.getD_eq_getD_getElem?, List.mem_range.1 hi]
        refine wpAny_sound ops.size t _ a _ (any_sound hT hok ops.size (Array.replicate ops.size false) (by simp) (by rw [hrem]; simp) ?_ (s := { s with dt := L ++ s.dt }) (sf := sf) (g := g) ?_ (by rw [hrem]; exact hrun) fun g' a' w' hrel => hQ g' a' w' (fin sf g' a' w' hrel))
        · intro i hi hl
          exfalso
          simp [Array.getD_eq_getD_getElem?, hi] at hl
        · rw [hrem]
          exact hr1.draw _

end Go.Proofs.Fr

/- A state that crosses a border: what it is packed as, and what it is behind it. -/
namespace Go.Proofs.Fr
open Go Go.RowKit
variable {R : Type} {P : Program} {T : Nat → List Sp} {nt : Nat} {B : Bs} {s s' : S} {g g' : Nat → Value} {a : Act} {w : World} {H H' : Nat → Ob} {ok ok' : Nat → Prop}

theorem objT_cons (x : Tg × K) (pk : PK) : objT ((x :: pk).map (·.1)) = (match x.1 with | .obj id => [id] | .slot _ => []) ++ objT (pk.map (·.1)) := by
  obtain ⟨tg, k⟩ := x
  cases tg <;> rfl

/-- The values of what is packed. -/
theorem pack_vals {fr : Nat → Prop} (hr : Rel B nt fr s g a w) : ∀ {pk : PK} {x : PK.den pk} {fro own : List Nat}, pkA s.H (pk.map (·.2)) (pk.map (tgD s)) = some (x, fro, own) →
    (∀ (j : Nat) id k, pk[j]? = some (.obj id, k) → k.isOb = true) →
    ∃ vs : List Value, All2 (DR g s.H w (okB B g s.H w)) (pk.map (tgD s)) vs ∧ (∀ (j : Nat) t k, pk[j]? = some (.slot t, k) → vs[j]? = some (a.tmps.getD t undef)) ∧ (∀ (j : Nat) id k, pk[j]? = some (.obj id, k) → vs[j]? = some (g id) ∧ fits k (s.H id)) ∧ (objT (pk.map (·.1))).Sublist own
  | [], x, fro, own, h, _ => ⟨[], trivial, fun j t k hj => by simp at hj, fun j id k hj => by simp at hj, List.nil_sublist _⟩
  | (.slot t, k) :: pk, x, fro, own, h, hk => by
    change pkA s.H (k :: pk.map (·.2)) (tgD s (.slot t, k) :: pk.map (tgD s)) = some (x, fro, own) at h
    simp only [pkA] at h
    split at h
    · rename_i d ds0 hd0
      obtain ⟨hd, hds0⟩ := List.cons.inj hd0
      subst hds0
      split at h
      · split at h
        · rename_i x1 f1 l1 h1
          split at h
          · rename_i y f2 l2 h2
            cases h
            obtain ⟨vs, v1, v2, v3, v4⟩ := pack_vals hr h2 (fun j id k' hj => hk (j + 1) id k' (by simpa using hj))
            refine ⟨a.tmps.getD t undef :: vs, ⟨hr.slots t, v1⟩, fun j t' k' hj => ?_, fun j id k' hj => ?_, ?_⟩
            · cases j with
              | zero => simp at hj; obtain ⟨rfl, rfl⟩ := hj; rfl
              | succ j => simpa using v2 j t' k' (by simpa using hj)
            · cases j with
              | zero => simp at hj
              | succ j => simpa using v3 j id k' (by simpa using hj)
            · rw [List.map_cons, objT_slot]
              exact v4.trans (List.sublist_append_right _ _)
          · cases h
        · cases h
      · cases h
    · cases h
  | (.obj id, k) :: pk, x, fro, own, h, hk => by
    have hob := hk 0 id k rfl
    change pkA s.H (k :: pk.map (·.2)) (tgD s (.obj id, k) :: pk.map (tgD s)) = some (x, fro, own) at h
    simp only [pkA] at h
    split at h
    · rename_i d ds0 hd0
      obtain ⟨hd, hds0⟩ := List.cons.inj hd0
      subst hds0
      split at h
      · split at h
        · rename_i x1 f1 l1 h1
          split at h
          · rename_i y f2 l2 h2
            cases h
            obtain ⟨vs, v1, v2, v3, v4⟩ := pack_vals hr h2 (fun j id k' hj => hk (j + 1) id k' (by simpa using hj))
            have key : DR g s.H w (okB B g s.H w) (tgD s (.obj id, k)) (g id) ∧ fits k (s.H id) ∧ ∃ l', l1 = id :: l' := by
              have ho := hr.objs id
              cases k with
              | own E t =>
                have : d = .one (.own id) := by have e : tgD s (.obj id, .own E t) = .v d := hd; simp only [tgD] at e; cases e; rfl
                subst this
                simp only [D0.ls, pkC] at h1
                split at h1
                · rename_i E' t' xs hH
                  split at h1
                  · rename_i ht; subst ht
                    split at h1
                    · rename_i hE; subst hE
                      cases h1
                      rw [hH] at ho
                      obtain ⟨A, c, hv, _⟩ := RowO.slice_ ho
                      exact ⟨⟨by rw [hv]; rfl, fun _ _ _ => rfl⟩, ⟨xs, hH⟩, [], rfl⟩
                    · cases h1
                  · cases h1
                · cases h1
              | bx T c =>
                have : d = .one (.ptr id 0) := by have e : tgD s (.obj id, .bx T c) = .v d := hd; simp only [tgD] at e; cases e; rfl
                subst this
                simp only [D0.ls, pkC] at h1
                split at h1
                · rename_i T' ls hH
                  split at h1
                  · rename_i hT; subst hT
                    split at h1
                    · cases h1
                      rw [hH] at ho
                      obtain ⟨kb, arr, hg, _⟩ := ho
                      exact ⟨⟨⟨_, hg⟩, fun q _ => ⟨kb, hg, hg⟩⟩, ⟨ls, hH⟩, _, rfl⟩
                    · cases h1
                  · cases h1
                · cases h1
              | _ => cases hob
            obtain ⟨k1, k2, l', k3⟩ := key
            refine ⟨g id :: vs, ⟨k1, v1⟩, fun j t' k' hj => ?_, fun j id' k' hj => ?_, ?_⟩
            · cases j with
              | zero => simp at hj
              | succ j => simpa using v2 j t' k' (by simpa using hj)
            · cases j with
              | zero => simp at hj; obtain ⟨rfl, rfl⟩ := hj; exact ⟨rfl, k2⟩
              | succ j => simpa using v3 j id' k' (by simpa using hj)
            · rw [List.map_cons, objT_obj, k3, List.cons_append]
              exact List.Sublist.cons_cons _ (v4.trans (List.sublist_append_right _ _))
          · cases h
        · cases h
      · cases h
    · cases h

theorem chk_spec {pk : PK} {mv fro own : List Nat} (h : chk s s' pk mv fro own = true) {new : List Nat} (hd : s'.dt = new ++ s.dt) : (∀ id ∈ new, s.nx ≤ id ∨ id ∈ mv) ∧ (∀ id ∈ fro, s.nx ≤ id ∨ id ∈ mv) ∧ (∀ id ∈ own, s.nx ≤ id ∨ id ∈ mv) ∧ lentOk fro own = true ∧
    (∀ (j : Nat) id k, pk[j]? = some (.obj id, k) → id < s.nx ∧ k.isOb = true) := by
  unfold chk at h
  simp only [Bool.and_eq_true] at h
  obtain ⟨⟨h1, h2⟩, h3⟩ := h
  have key : ∀ id ∈ new ++ fro ++ own, s.nx ≤ id ∨ id ∈ mv := by
    have htk : s'.dt.take (s'.dt.length - s.dt.length) = new := by
      rw [hd, List.length_append, Nat.add_sub_cancel, List.take_left]
    rw [htk] at h1
    intro id hid
    have := List.all_eq_true.1 h1 id hid
    simp only [Bool.or_eq_true] at this
    rcases this with h | h
    · exact .inl (Nat.le_of_ble_eq_true h)
    · exact .inr (by simpa using h)
  refine ⟨fun id h => key id (by simp [h]), fun id h => key id (by simp [h]), fun id h => key id (by simp [h]), h2, fun j id k hj => ?_⟩
  have := List.all_eq_true.1 h3 _ (List.mem_of_getElem? hj)
  simpa [Nat.blt_eq] using this

theorem mem_handles {pk : PK} {j : Nat} {id : Nat} {k : K} (h : pk[j]? = some (.obj id, k)) : id ∈ handles s pk := by
  unfold handles
  refine List.mem_flatMap.2 ⟨_, List.mem_of_getElem? h, ?_⟩
  have : (tgD s (.obj id, k)).ids = [id] := by unfold tgD; cases k <;> rfl
  rw [this]
  simp [reachI]

theorem objT_get {pk : PK} {id : Nat} (h : id ∈ objT (pk.map (·.1))) : ∃ (j : Nat) (k : K), pk[j]? = some (.obj id, k) := by
  unfold objT at h
  obtain ⟨tg, htg, e⟩ := List.mem_filterMap.1 h
  obtain ⟨⟨tg', k⟩, hm, rfl⟩ := List.mem_map.1 htg
  obtain ⟨j, hj⟩ := List.getElem?_of_mem hm
  cases tg' with
  | slot t => cases e
  | obj q => cases e; exact ⟨j, k, hj⟩

/-- Across a border. -/
theorem repack (hr0 : ∃ g0 a0 w0, Rel B nt (fun j => s.nx ≤ j) s g0 a0 w0) (hr : Rel B nt (fun j => s'.nx ≤ j) s' g a w) {wr : Nat → Bool} (hx : SExt wr s.nx s s') {pk : PK} {x : PK.den pk} {fro own : List Nat}
    (hp : pack s' pk = some (x, fro, own)) (hc : chk s s' pk (handles s pk) fro own = true) : ∃ g', Rel B nt (fun j => (unpack pk wr s x).nx ≤ j) (unpack pk wr s x) g' a w := by
  obtain ⟨g0, a0, w0, hr0⟩ := hr0
  obtain ⟨xe, xn, new, xd, xH⟩ := hx
  obtain ⟨c1, c2, c3, c4, c5⟩ := chk_spec hc xd
  obtain ⟨hon, hof⟩ := lentOk_spec c4
  obtain ⟨i1, i2⟩ := pkA_ids (Hv := s'.H) (fun _ => .inr rfl) hr.kold hp (fun d hd j hj => by
    obtain ⟨⟨tg, k⟩, hm, rfl⟩ := List.mem_map.1 hd
    cases tg with
    | slot t => exact hr.sold t j hj
    | obj id =>
      obtain ⟨q, hq⟩ := List.getElem?_of_mem hm
      have e : (tgD s' (.obj id, k)).ids = [id] := by unfold tgD; cases k <;> rfl
      rw [e] at hj
      have : j = id := by simpa using hj
      subst this
      have := (c5 q j k hq).1
      omega)
  obtain ⟨hrF, okF1, okF2⟩ := hr.freeze (ids := fro) (fun id h => (i1 id h).1) (fun id h => (i1 id h).2) s'.dt
  obtain ⟨vs, v1, v2, v3, v4⟩ := pack_vals hr hp (fun j id k hj => (c5 j id k hj).2)
  let mv := handles s pk
  have hAR : AR w (okB B g (frz s'.H fro) w) (pk.map (·.2)) x vs (own.filterMap (owned g s'.H)) := pkA_R (Hv := s'.H) (fun _ => .inr rfl) hr.objs okF1 hp v1 okF2
  have hfl : ∀ id ∈ own, frz s'.H fro id = s'.H id := fun id h => (frz_at fro s'.H id).2 (hof id h)
  have hbn : ∀ {l : List Nat}, l.Nodup → (l.filterMap (owned g s'.H)).Nodup := by
    intro l
    induction l with
    | nil => intro _; exact List.nodup_nil
    | cons i l ih =>
      intro hn
      obtain ⟨n1, n2⟩ := List.nodup_cons.1 hn
      rw [List.filterMap_cons]
      cases e : owned g s'.H i with
      | none => exact ih n2
      | some b =>
        refine List.nodup_cons.2 ⟨fun hm => ?_, ih n2⟩
        obtain ⟨j, hj, e'⟩ := List.mem_filterMap.1 hm
        exact n1 ((hr.disj i j b e e') ▸ hj)
  have hbs : ∀ b ∈ own.filterMap (owned g s'.H), ∃ id ∈ own, owned g (frz s'.H fro) id = some b := by
    intro b hb'
    obtain ⟨id, hid, e⟩ := List.mem_filterMap.1 hb'
    exact ⟨id, hid, by simpa only [owned, hfl id hid] using e⟩
  have hobj : ∀ id ∈ objT (pk.map (·.1)), id < s.nx ∧ id ∈ mv := by
    intro id hid
    obtain ⟨j, k, hj⟩ := objT_get hid
    exact ⟨(c5 j id k hj).1, mem_handles hj⟩
  have getpk : ∀ (j : Nat) tg k, (pk.map (·.1))[j]? = some tg → (pk.map (·.2))[j]? = some k → pk[j]? = some (tg, k) := by
    intro j tg k h1 h2
    simp only [List.getElem?_map] at h1 h2
    cases e : pk[j]? with
    | none => rw [e] at h1; simp at h1
    | some p => rw [e] at h1 h2; simp at h1 h2; rw [← h1, ← h2]
  have getpk1 : ∀ (j : Nat) tg, (pk.map (·.1))[j]? = some tg → ∃ k, pk[j]? = some (tg, k) := by
    intro j tg h1
    simp only [List.getElem?_map] at h1
    cases e : pk[j]? with
    | none => rw [e] at h1; simp at h1
    | some p => rw [e] at h1; simp at h1; exact ⟨p.2, by rw [← h1]⟩
  obtain ⟨gs, hgl, hfill⟩ := fillS_R (tgs := pk.map (·.1)) (ks := pk.map (·.2)) (x := x) (fun i => bif wr i then .one .undef else s.e i) (goneAll s.H mv) s.nx hAR (by simp) (fun id hid => .inl (hobj id hid).1) (hon.sublist v4)
    (fun j id k h1 h2 => (c5 j id k (getpk j _ k h1 h2)).2)
  let N := nobP (pk.map (·.1)) (pk.map (·.2))
  let G : Nat → Value := fun id => if s.nx ≤ id ∧ id < s.nx + N then gs.getD (id - s.nx) undef else g id
  have hGold : ∀ id, ¬ (s.nx ≤ id ∧ id < s.nx + N) → G id = g id := fun id h => if_neg h
  have hF := hfill G (fun t => a.tmps.getD t undef) (fun i v hi => by
      have hlt := (List.getElem?_eq_some_iff.1 hi).1
      show (if s.nx ≤ s.nx + i ∧ s.nx + i < s.nx + N then _ else _) = v
      rw [if_pos ⟨by omega, by show s.nx + i < s.nx + nobP _ _; omega⟩, List.getD_eq_getElem?_getD, Nat.add_sub_cancel_left, hi]; rfl)
    (fun j t v h1 h2 => by
      obtain ⟨k, hk⟩ := getpk1 j _ h1
      have := v2 j t k hk
      rw [h2] at this; cases this; rfl)
    (fun j id v h1 h2 => by
      obtain ⟨k, hk⟩ := getpk1 j _ h1
      have h3 := (v3 j id k hk).1
      rw [h2] at h3; cases h3
      exact hGold id (by have := (c5 j id k hk).1; omega))
  -- the state behind the border
  let F := fillS (fun i => bif wr i then .one .undef else s.e i) (goneAll s.H mv) s.nx (pk.map (·.1)) (pk.map (·.2)) x
  have hF' : Filled G (fun t => a.tmps.getD t undef) w (okB B g (frz s'.H fro) w) (fun i => bif wr i then .one .undef else s.e i) s.nx (pk.map (·.1)) (pk.map (·.2)) (own.filterMap (owned g s'.H)) F := hF
  have htch : ∀ id, tch (pk.map (·.1)) (pk.map (·.2)) s.nx id ↔ ((s.nx ≤ id ∧ id < s.nx + N) ∨ id ∈ objT (pk.map (·.1))) := fun id => Iff.rfl
  have hkeep : ∀ id, ¬ (s.nx ≤ id ∧ id < s.nx + N) → id ∉ objT (pk.map (·.1)) → F.2 id = goneAll s.H mv id := fun id h1 h2 => fill_keep _ _ _ _ (by have : N = nobP (pk.map (·.1)) (pk.map (·.2)) := rfl; omega) h2
  have hgone : ∀ id, (s.nx ≤ id ∨ id ∈ mv) → goneAll s.H mv id = .gone := by
    intro id h
    by_cases hm : id ∈ mv
    · exact (goneAll_at mv s.H id).1 hm
    · rw [(goneAll_at mv s.H id).2 hm]; exact hr0.fresh id (h.resolve_right hm)
  have hsame : ∀ id, id < s.nx → id ∉ mv → F.2 id = s.H id ∧ frz s'.H fro id = s.H id := by
    intro id h1 h2
    refine ⟨(hkeep id (by omega) (fun h => h2 (hobj id h).2)).trans ((goneAll_at mv s.H id).2 h2), ?_⟩
    rw [(frz_at fro s'.H id).2 (fun h => by rcases c2 id h with h3 | h3; omega; exact h2 h3)]
    exact xH id h1 fun hn => by rcases c1 id hn with h3 | h3; omega; exact h2 h3
  let tc : Nat → Prop := fun id => s.nx ≤ id ∨ id ∈ mv
  have hown : ∀ id k, tc id → owned G F.2 id = some k → tch (pk.map (·.1)) (pk.map (·.2)) s.nx id ∧ k ∈ own.filterMap (owned g s'.H) := by
    intro id k ht ho
    by_cases hf : tch (pk.map (·.1)) (pk.map (·.2)) s.nx id
    · exact ⟨hf, hF'.own id k hf ho⟩
    · exfalso
      rw [htch] at hf
      simp only [not_or] at hf
      rw [owned_eq, hkeep id hf.1 hf.2, hgone id ht] at ho
      cases ho
  have hotc : ∀ id ∈ own, tc id := fun id h => c3 id h
  have hokn : ∀ k, okB B g (frz s'.H fro) w k → okB B G F.2 w k := by
    intro k hk
    refine ⟨hk.1, fun i hi => ?_, hk.2.2⟩
    by_cases ht : tc i
    · obtain ⟨id, _, e⟩ := hbs k (hown i k ht hi).2
      exact hk.2.1 id e
    · have h1 : i < s.nx := by by_cases h : i < s.nx; exact h; exact absurd (.inl (by omega)) ht
      have h2 : i ∉ mv := fun h => ht (.inr h)
      obtain ⟨e1, e2⟩ := hsame i h1 h2
      refine hk.2.1 i ?_
      rw [owned_eq, e2]
      rw [owned_eq, e1, hGold i (by omega)] at hi
      exact hi
  refine ⟨G, ?_⟩
  show Rel B nt (fun j => s.nx + N ≤ j) (unpack pk wr s x) G a w
  have hsl : ∀ t, F.1 t = (bif wr t then .one .undef else s.e t) ∨ (DR G F.2 w (okB B g (frz s'.H fro) w) (F.1 t) (a.tmps.getD t undef) ∧ ∀ j ∈ (F.1 t).ids, s.nx ≤ j ∧ j < s.nx + N) := fun t => by
    rcases hF'.slot t with ⟨h, _⟩ | h
    · exact .inl h
    · exact .inr h
  refine Rel.gen (s' := unpack pk wr s x) hrF tc (fun id => id < s.nx) (fun id ht => ?_) (fun id hid => ?_) (fun id ht j hj => ?_) (fun id k ht ho => ?_) (fun i j k hi hj hik hjk => ?_) (fun _ _ _ => rfl) rfl rfl rfl (Nat.le_refl _) (fun _ t => ?_) (fun t id hid hf => ?_) (fun _ id ht => ?_) (fun id j hj hf => ?_) (fun id hf => ?_) (fun id hid => ?_) hr.size hr.dfr
  · have h1 : id < s.nx := by by_cases h : id < s.nx; exact h; exact absurd (.inl (by omega)) ht
    have h2 : id ∉ mv := fun h => ht (.inr h)
    obtain ⟨e1, e2⟩ := hsame id h1 h2
    exact ⟨e1.trans e2.symm, hGold id (by omega)⟩
  · have hG := hGold id (by omega)
    by_cases ho : id ∈ objT (pk.map (·.1))
    · obtain ⟨j, k, hj⟩ := objT_get ho
      have h3 := (v3 j id k hj).2
      have h4 := hF'.fit j id k (by rw [List.getElem?_map, hj]; rfl) (by rw [List.getElem?_map, hj]; rfl)
      right
      refine ⟨?_, hG⟩
      have hio : id ∈ own := v4.subset ho
      show shO (F.2 id) = shO (frz s'.H fro id)
      rw [hfl id hio]
      exact fits_sh h3 h4 hG (hr.objs id) (hF'.ob id ((htch id).2 (.inr ho))).1
    · by_cases hm : id ∈ mv
      · left
        show shO (F.2 id) = none
        rw [hkeep id (by omega) ho, hgone id (.inr hm)]; rfl
      · obtain ⟨e1, e2⟩ := hsame id hid hm
        right
        exact ⟨by show shO (F.2 id) = shO (frz s'.H fro id); rw [e1, e2], hG⟩
  · have h1 : id < s.nx := by by_cases h : id < s.nx; exact h; exact absurd (.inl (by omega)) ht
    have h2 : id ∉ mv := fun h => ht (.inr h)
    have hj' : j ∈ (frz s'.H fro id).kids := hj
    rw [(hsame id h1 h2).2] at hj'
    have := hr0.kold id j hj'
    omega
  · obtain ⟨j, hj, e⟩ := hbs k (hown id k ht ho).2
    exact .inr ⟨j, hotc j hj, e⟩
  · exact hF'.inj (hbn hon) i j k (hown i k hi hik).1 (hown j k hj hjk).1 hik hjk
  · rcases hsl t with h | ⟨h1, h2⟩
    · cases hw : wr t with
      | true =>
        right
        show DR G F.2 w _ (F.1 t) _
        rw [h, hw]; exact trivial
      | false =>
        left
        rw [hw] at h
        refine ⟨?_, rfl, fun id hid => ?_⟩
        · show F.1 t = s'.e t
          rw [h, xe t hw]; rfl
        · have hid' : id ∈ (s'.e t).ids := hid
          rw [xe t hw] at hid'
          have := hr0.sold t id hid'
          omega
    · right
      exact DR.mono (fun k hk => ⟨hokn k hk, rfl⟩) (fun _ _ => .inr ⟨rfl, rfl⟩) h1
  · have hid' : id ∈ (F.1 t).ids := hid
    rcases hsl t with h | ⟨h1, h2⟩
    · rw [h] at hid'
      cases hw : wr t with
      | true => rw [hw] at hid'; simp [D.ids, D0.ids, D0.ls, L.ids] at hid'
      | false => rw [hw] at hid'; have := hr0.sold t id hid'; omega
    · have := h2 id hid'; omega
  · show OB _ _ _ _ id (F.2 id)
    by_cases h1 : tch (pk.map (·.1)) (pk.map (·.2)) s.nx id
    · exact OB.mono (fun k hk => ⟨hokn k hk, rfl⟩) rfl rfl (fun _ _ => rfl) (fun _ _ => .inr ⟨rfl, rfl⟩) (hF'.ob id h1).1
    · rw [htch] at h1
      simp only [not_or] at h1
      rw [hkeep id h1.1 h1.2, hgone id ht]; trivial
  · have hj' : j ∈ (F.2 id).kids := hj
    by_cases h1 : tch (pk.map (·.1)) (pk.map (·.2)) s.nx id
    · have := (hF'.ob id h1).2 j hj'
      have e : N = nobP (pk.map (·.1)) (pk.map (·.2)) := rfl
      omega
    · rw [htch] at h1
      simp only [not_or] at h1
      rw [hkeep id h1.1 h1.2] at hj'
      by_cases ht : s.nx ≤ id ∨ id ∈ mv
      · rw [hgone id ht] at hj'; cases hj'
      · simp only [not_or] at ht
        rw [(goneAll_at mv s.H id).2 ht.2] at hj'
        have := hr0.kold id j hj'
        omega
  · show F.2 id = .gone
    rw [hkeep id (by omega) (fun h => by have := (hobj id h).1; omega)]
    exact hgone id (.inl (by omega))
  · have := (hr0.kp id hid).1
    exact ⟨by omega, by omega⟩

/-- What changes across a border. -/
theorem unpack_ext {pk : PK} {wr wr' : Nat → Bool} {x : PK.den pk} (hw : ∀ t, wr' t = false → wr t = false ∧ inPk (some pk) t = false) : SExt wr' s.nx s (unpack pk wr s x) := by
  refine ⟨fun t ht => ?_, Nat.le_add_right _ _, handles s pk, rfl, fun id hid hn => ?_⟩
  · obtain ⟨h1, h2⟩ := hw t ht
    have h3 : Tg.slot t ∉ pk.map (·.1) := by
      intro hm
      obtain ⟨p, hp, e⟩ := List.mem_map.1 hm
      have : inPk (some pk) t = true := List.any_eq_true.2 ⟨p, hp, by rw [e]; simp⟩
      rw [h2] at this; cases this
    refine (fill_slot (x := x) _ _ _ t h3).trans ?_
    show (bif wr t then (D.one .undef) else s.e t) = s.e t
    rw [h1]; rfl
  · refine (fill_keep (x := x) _ _ _ _ (.inl hid) (fun h => ?_)).trans ((goneAll_at (handles s pk) s.H id).2 hn)
    obtain ⟨j, k, hj⟩ := objT_get h
    exact hn (mem_handles hj)

end Go.Proofs.Fr

/- The ways through a body; the function as a whole. -/
namespace Go.Proofs.Fr
open Go Go.RowKit
variable {R : Type} {P : Program} {T : Nat → List Sp} {nt : Nat} {ann : Nat → Option PK} {B : Bs} {s s' : S} {g g' : Nat → Value} {a : Act} {w : World} {H H' : Nat → Ob} {ok ok' : Nat → Prop} {Q : Exit → Act → World → Prop}

def toExit : Ex → Exit
  | .normal => .normal
  | .exit id => .exit id
  | .ret => .ret
  | .goto l => .goto l

abbrev RelS (B : Bs) (nt : Nat) (s : S) (g : Nat → Value) (a : Act) (w : World) : Prop := Rel B nt (fun j => s.nx ≤ j) s g a w

def KOk (B : Bs) (nt : Nat) (wr : Nat → Bool) (s : S) (k : Ex → S → Option R) (r : R) (Q : Exit → Act → World → Prop) : Prop :=
  ∀ ex s' g' a' w', k ex s' = some r → SExt wr s.nx s s' → RelS B nt s' g' a' w' → Q (toExit ex) a' w'

theorem packK_some {pk : PK} {k : PK.den pk → Option R} {r : R} (h : packK pk s s' k = some r) : ∃ x fro own, pack s' pk = some (x, fro, own) ∧ chk s s' pk (handles s pk) fro own = true ∧ k x = some r := by
  unfold packK at h
  cases hp : pack s' pk with
  | none => rw [hp] at h; cases h
  | some q =>
    obtain ⟨x, fro, own⟩ := q
    rw [hp] at h
    simp only at h
    cases hc : chk s s' pk (handles s pk) fro own with
    | false => rw [hc] at h; cases h
    | true => rw [hc] at h; exact ⟨x, fro, own, rfl, hc, h⟩

theorem joinK_sound {pk? : Option PK} {wr : Nat → Bool} (hpk : ∀ t, wr t = false → inPk pk? t = false) {k : Ex → S → Option R} {r : R} {m : (Ex → S → Option R) → Option R} (hr0 : RelS B nt s g a w) (h : joinK pk? wr s k m = some r) (hk : KOk B nt wr s k r Q) :
    ∃ k', m k' = some r ∧ KOk B nt wr s k' r Q := by
  cases pk? with
  | none => exact ⟨k, h, hk⟩
  | some pk =>
    refine ⟨_, h, fun ex s' g' a' w' hx hext hrel => ?_⟩
    cases ex with
    | normal =>
      obtain ⟨x, fro, own, hp, hc, hj⟩ := packK_some (R := R) hx
      obtain ⟨g'', hrel'⟩ := repack ⟨g, a, w, hr0⟩ hrel hext hp hc
      exact hk .normal _ g'' a' w' hj (unpack_ext fun t ht => ⟨ht, hpk t ht⟩) hrel'
    | exit id => exact hk (.exit id) s' g' a' w' hx hext hrel
    | ret => exact hk .ret s' g' a' w' hx hext hrel
    | goto l => exact hk (.goto l) s' g' a' w' hx hext hrel

theorem SExt.wide {wr wr' : Nat → Bool} {lim : Nat} (h : SExt wr lim s s') (hw : ∀ t, wr' t = false → wr t = false) : SExt wr' lim s s' := ⟨fun t ht => h.1 t (hw t ht), h.2⟩

def wpM (P : Program) (Q : Exit → Act → World → Prop) (m : Option Nat) (c : Code) (a : Act) (w : World) : Prop :=
  match m with
  | none => c.wp P Q a w
  | some l => ∃ rest, findLabel c l = some rest ∧ rest.wp P Q a w

theorem label_find : ∀ {c : Code} {l : Nat}, labelIn c = some l → ∃ rest, findLabel c l = some rest
  | .seq x y, l, h => by
    simp only [labelIn] at h
    cases hx : labelIn x with
    | some l' =>
      rw [hx] at h
      simp at h
      subst h
      obtain ⟨rest, hr⟩ := label_find hx
      exact ⟨.seq rest y, by simp only [findLabel, hr]⟩
    | none =>
      rw [hx] at h
      simp at h
      obtain ⟨rest, hr⟩ := label_find h
      cases hf : findLabel x l with
      | some q => exact ⟨.seq q y, by simp only [findLabel, hf]⟩
      | none => exact ⟨rest, by simp only [findLabel, hf]; exact hr⟩
  | .label l', l, h => by
    simp only [labelIn, Option.some.injEq] at h
    subst h
    exact ⟨.skip, by simp [findLabel]⟩
  | .skip, _, h => by cases h
  | .region .., _, h => by cases h
  | .cond .., _, h => by cases h
  | .block .., _, h => by cases h
  | .loop .., _, h => by cases h
  | .rangeFunc .., _, h => by cases h
  | .exit .., _, h => by cases h
  | .scope .., _, h => by cases h
  | .goto .., _, h => by cases h
  | .ret, _, h => by cases h
  | .refuse .., _, h => by cases h

theorem least {p : Nat → Prop} (h : ∃ n, p n) : ∃ n, p n ∧ ∀ m, p m → n ≤ m := by
  obtain ⟨n, hn⟩ := h
  induction n using Nat.strongRecOn with
  | _ n ih =>
    by_cases hlt : ∃ m, m < n ∧ p m
    · obtain ⟨m, hm, hp⟩ := hlt
      exact ih m hm hp
    · exact ⟨n, hn, fun m hm => Nat.le_of_not_lt fun h => hlt ⟨m, h, hm⟩⟩

theorem ev_sound (hT : ∀ f sp, sp ∈ T f → Sound P f sp) : ∀ (m : Option Nat) (c : Code) (p : Nat) {s : S} {g : Nat → Value} {a : Act} {w : World} (k : Ex → S → Option R) (r : R) (Q : Exit → Act → World → Prop),
    RelS B nt s g a w → evC P T nt ann m c p s k = some r → KOk B nt (wrC ann c p) s k r Q → wpM P Q m c a w
  | none, .skip, p, s, g, a, w, k, r, Q, hr, h, hk => wp_skip (hk .normal s g a w h (SExt.refl _ _ _) hr)
  | none, .label _, p, s, g, a, w, k, r, Q, hr, h, hk => wp_label (hk .normal s g a w h (SExt.refl _ _ _) hr)
  | none, .exit id, p, s, g, a, w, k, r, Q, hr, h, hk => wp_exit (hk (.exit id) s g a w h (SExt.refl _ _ _) hr)
  | none, .ret, p, s, g, a, w, k, r, Q, hr, h, hk => wp_ret (hk .ret s g a w h (SExt.refl _ _ _) hr)
  | none, .seq x y, p, s, g, a, w, k, r, Q, hr, h, hk => by
    refine wp_seq (ev_sound hT none x (2 * p) _ r _ hr h fun ex s' g' a' w' hx hext hrel => ?_)
    have hw1 : ∀ t, wrC ann (.seq x y) p t = false → wrC ann x (2 * p) t = false := fun t ht => by simp only [wrC, Bool.or_eq_false_iff] at ht; exact ht.1
    have hw2 : ∀ t, wrC ann (.seq x y) p t = false → wrC ann y (2 * p + 1) t = false := fun t ht => by simp only [wrC, Bool.or_eq_false_iff] at ht; exact ht.2
    cases ex with
    | normal =>
      refine ev_sound hT none y (2 * p + 1) k r Q hrel hx fun ex2 s2 g2 a2 w2 hx2 hext2 hrel2 => ?_
      exact hk ex2 s2 g2 a2 w2 hx2 (hext.trans hext2 hext.2.1 hw1 hw2) hrel2
    | exit id => exact hk (.exit id) s' g' a' w' hx (hext.wide hw1) hrel
    | ret => exact hk .ret s' g' a' w' hx (hext.wide hw1) hrel
    | goto l => exact hk (.goto l) s' g' a' w' hx (hext.wide hw1) hrel
  | none, .region id ops dr, p, s, g, a, w, k, r, Q, hr, h, hk => by
    obtain ⟨k', hk1, hk2⟩ := joinK_sound (fun t ht => by simp only [wrC, Bool.or_eq_false_iff] at ht; exact ht.2) hr h hk
    obtain ⟨s', h1, h2, h3⟩ := region_sound (Q := Q) (id := id) hT hr hk1
    exact h3 fun g' a' w' hrel => hk2 .normal s' g' a' w' h1 (h2.wide fun t ht => by simp only [wrC, Bool.or_eq_false_iff] at ht; exact ht.1) hrel
  | none, .cond c x y, p, s, g, a, w, k, r, Q, hr, h, hk => by
    obtain ⟨k', hk1, hk2⟩ := joinK_sound (fun t ht => by simp only [wrC, Bool.or_eq_false_iff] at ht; exact ht.2) hr h hk
    have hw1 : ∀ t, wrC ann (.cond c x y) p t = false → wrC ann x (2 * p) t = false := fun t ht => by simp only [wrC, Bool.or_eq_false_iff] at ht; exact ht.1.1
    have hw2 : ∀ t, wrC ann (.cond c x y) p t = false → wrC ann y (2 * p + 1) t = false := fun t ht => by simp only [wrC, Bool.or_eq_false_iff] at ht; exact ht.1.2
    obtain ⟨hc, _⟩ := ev_R hr c
    split at hk1
    · rename_i b hb
      rw [hb] at hc
      have hcv : a.eval c = .bool b := hc
      refine wp_cond hcv ?_
      cases b with
      | true =>
        simp only [if_true] at hk1 ⊢
        exact ev_sound hT none x (2 * p) k' r Q hr hk1 fun ex s' g' a' w' hx hext hrel => hk2 ex s' g' a' w' hx (hext.wide hw1) hrel
      | false =>
        simp only [Bool.false_eq_true, if_false] at hk1 ⊢
        exact ev_sound hT none y (2 * p + 1) k' r Q hr hk1 fun ex s' g' a' w' hx hext hrel => hk2 ex s' g' a' w' hx (hext.wide hw2) hrel
    · rename_i hb
      rw [hb] at hc
      obtain ⟨b, hcv⟩ : ∃ b, a.eval c = .bool b := hc
      refine wp_cond hcv ?_
      cases b with
      | true =>
        simp only [if_true]
        exact ev_sound hT none x (2 * p) k' r Q hr (both_left hk1) fun ex s' g' a' w' hx hext hrel => hk2 ex s' g' a' w' hx (hext.wide hw1) hrel
      | false =>
        simp only [Bool.false_eq_true, if_false]
        exact ev_sound hT none y (2 * p + 1) k' r Q hr (both_right hk1) fun ex s' g' a' w' hx hext hrel => hk2 ex s' g' a' w' hx (hext.wide hw2) hrel
    · cases hk1
  | none, .block id b, p, s, g, a, w, k, r, Q, hr, h, hk => by
    obtain ⟨k', hk1, hk2⟩ := joinK_sound (fun t ht => by simp only [wrC, Bool.or_eq_false_iff] at ht; exact ht.2) hr h hk
    have hw1 : ∀ t, wrC ann (.block id b) p t = false → wrC ann b (2 * p) t = false := fun t ht => by simp only [wrC, Bool.or_eq_false_iff] at ht; exact ht.1
    refine wp_block (ev_sound hT none b (2 * p) _ r _ hr hk1 fun ex s' g' a' w' hx hext hrel => ?_)
    cases ex with
    | normal => exact hk2 .normal s' g' a' w' hx (hext.wide hw1) hrel
    | exit i =>
      simp only at hx
      show (if i = id then Q .normal a' w' else Q (.exit i) a' w')
      by_cases e : i = id
      · rw [if_pos e] at hx ⊢; exact hk2 .normal s' g' a' w' hx (hext.wide hw1) hrel
      · rw [if_neg e] at hx ⊢; exact hk2 (.exit i) s' g' a' w' hx (hext.wide hw1) hrel
    | ret => exact hk2 .ret s' g' a' w' hx (hext.wide hw1) hrel
    | goto l => exact hk2 (.goto l) s' g' a' w' hx (hext.wide hw1) hrel
  | none, .loop b, p, s, g, a, w, k, r, Q, hr, h, hk => by
    simp only [evC] at h
    split at h
    · cases h
    · rename_i pk hann
      have hw1 : ∀ t, wrC ann (.loop b) p t = false → wrC ann b (2 * p) t = false := fun t ht => by simp only [wrC, Bool.or_eq_false_iff] at ht; exact ht.1
      have hw2 : ∀ t, wrC ann (.loop b) p t = false → inPk (some pk) t = false := fun t ht => by simp only [wrC, Bool.or_eq_false_iff] at ht; rw [← hann]; exact ht.2
      have hue : ∀ x : PK.den pk, SExt (wrC ann (.loop b) p) s.nx s (unpack pk (wrC ann (.loop b) p) s x) := fun x => unpack_ext fun t ht => ⟨ht, hw2 t ht⟩
      obtain ⟨x0, fro, own, hp, hc, hit⟩ := packK_some h
      obtain ⟨g1, hr1⟩ := repack (wr := wrC ann (.loop b) p) ⟨g, a, w, hr⟩ hr (SExt.refl _ _ _) hp hc
      have key : ∀ (n : Nat) (x : PK.den pk) (g : Nat → Value) (a : Act) (w : World), RelS B nt (unpack pk (wrC ann (.loop b) p) s x) g a w →
          iterK n (fun x rec => evC P T nt ann none b (2 * p) (unpack pk (wrC ann (.loop b) p) s x) fun ex s' => match ex with
            | .normal => packK pk s s' rec
            | e => k e s') x = some r → Code.rounds P b Q n a w := by
        intro n
        induction n with
        | zero => intro x g a w _ hi; cases hi
        | succ n ih =>
          intro x g2 a2 w2 hrel hi
          simp only [iterK] at hi
          refine ev_sound hT none b (2 * p) _ r _ hrel hi fun ex s' g' a' w' hx hext hrel' => ?_
          have hext2 : SExt (wrC ann (.loop b) p) s.nx s s' := (hue x).trans hext (hue x).2.1 (fun _ h => h) hw1
          cases ex with
          | normal =>
            obtain ⟨x', fro', own', hp', hc', hit'⟩ := packK_some (R := R) hx
            obtain ⟨g3, hr3⟩ := repack (wr := wrC ann (.loop b) p) ⟨g, _, _, hr⟩ hrel' hext2 hp' hc'
            exact ih x' g3 a' w' hr3 hit'
          | exit id => exact hk (.exit id) s' g' a' w' hx hext2 hrel'
          | ret => exact hk .ret s' g' a' w' hx hext2 hrel'
          | goto l => exact hk (.goto l) s' g' a' w' hx hext2 hrel'
      exact wp_loop_rounds _ (key _ x0 g1 a w hr1 hit)
  | none, .rangeFunc _ _ _ _, p, s, g, a, w, k, r, Q, hr, h, hk => by simp only [evC] at h; cases h
  | none, .goto l, p, s, g, a, w, k, r, Q, hr, h, hk => wp_goto (hk (.goto l) s g a w h (SExt.refl _ _ _) hr)
  | none, .refuse _, p, s, g, a, w, k, r, Q, hr, h, hk => by simp only [evC] at h; cases h
  | none, .scope b, p, s, g, a, w, k, r, Q, hr, h, hk => by
    have hw1 : ∀ t, wrC ann (.scope b) p t = false → wrC ann b (2 * p) t = false := fun t ht => by simp only [wrC, Bool.or_eq_false_iff] at ht; exact ht.1.1
    have hw3 : ∀ t, wrC ann (.scope b) p t = false → wrC ann b (2 * p + 1) t = false := fun t ht => by simp only [wrC, Bool.or_eq_false_iff] at ht; exact ht.1.2
    simp only [evC] at h
    split at h
    · rename_i pk l hann hlab
      have hw2 : ∀ t, wrC ann (.scope b) p t = false → inPk (some pk) t = false := fun t ht => by simp only [wrC, Bool.or_eq_false_iff] at ht; rw [← hann]; exact ht.2
      have hue : ∀ x : PK.den pk, SExt (wrC ann (.scope b) p) s.nx s (unpack pk (wrC ann (.scope b) p) s x) := fun x => unpack_ext fun t ht => ⟨ht, hw2 t ht⟩
      obtain ⟨rest, hrest⟩ := label_find hlab
      let body : PK.den pk → (PK.den pk → Option R) → Option R := fun x rec => evC P T nt ann (some l) b (2 * p + 1) (unpack pk (wrC ann (.scope b) p) s x) fun ex s' => match ex with
        | .goto l' => if l' = l then packK pk s s' rec else none
        | e => k e s'
      let Jn : Nat → Act → World → Prop := fun n a w => ∃ (x : PK.den pk) (g : Nat → Value), RelS B nt (unpack pk (wrC ann (.scope b) p) s x) g a w ∧ iterK n body x = some r
      let J : Act → World → Prop := fun a w => ∃ n, Jn n a w
      have hμ : ∃ μ : Act → World → Nat, ∀ a w, J a w → Jn (μ a w) a w ∧ ∀ m, Jn m a w → μ a w ≤ m := by
        refine ⟨fun a w => @dite _ (J a w) (Classical.propDecidable _) (fun h => Classical.choose (least h)) (fun _ => 0), fun a w hJ => ?_⟩
        simp only [dif_pos hJ]
        exact Classical.choose_spec (least hJ)
      obtain ⟨μ, hμ⟩ := hμ
      refine wp_scope_jumps l J μ hrest ?_ ?_
      · refine ev_sound hT none b (2 * p) _ r _ hr h fun ex s' g' a' w' hx hext hrel => ?_
        have hext2 := hext.wide hw1
        cases ex with
        | normal => exact hk .normal s' g' a' w' hx hext2 hrel
        | exit id => exact hk (.exit id) s' g' a' w' hx hext2 hrel
        | ret => exact hk .ret s' g' a' w' hx hext2 hrel
        | goto l' =>
          simp only at hx
          split at hx
          · rename_i hl
            obtain ⟨x', fro', own', hp', hc', hit'⟩ := packK_some (R := R) hx
            obtain ⟨g3, hr3⟩ := repack (wr := wrC ann (.scope b) p) ⟨g, _, _, hr⟩ hrel hext2 hp' hc'
            exact ⟨hl, _, x', g3, hr3, hit'⟩
          · cases hx
      · intro a1 w1 hJ
        obtain ⟨⟨x, g1, hr1, hit⟩, hmin⟩ := hμ a1 w1 hJ
        cases hn : μ a1 w1 with
        | zero => rw [hn] at hit; cases hit
        | succ n =>
          rw [hn] at hit
          simp only [iterK] at hit
          obtain ⟨rest', hf', hwp⟩ := ev_sound hT (some l) b (2 * p + 1) _ r (Exit.jump l (fun a' w' => J a' w' ∧ μ a' w' < n + 1) Q) hr1 hit fun ex s' g' a' w' hx hext hrel => by
            have hext2 : SExt (wrC ann (.scope b) p) s.nx s s' := (hue x).trans hext (hue x).2.1 (fun _ h => h) hw3
            cases ex with
            | normal => exact hk .normal s' g' a' w' hx hext2 hrel
            | exit id => exact hk (.exit id) s' g' a' w' hx hext2 hrel
            | ret => exact hk .ret s' g' a' w' hx hext2 hrel
            | goto l' =>
              simp only at hx
              split at hx
              · rename_i hl
                obtain ⟨x', fro', own', hp', hc', hit'⟩ := packK_some (R := R) hx
                obtain ⟨g3, hr3⟩ := repack (wr := wrC ann (.scope b) p) ⟨g, _, _, hr⟩ hrel hext2 hp' hc'
                have hjn : Jn n a' w' := ⟨x', g3, hr3, hit'⟩
                refine ⟨hl, ⟨n, hjn⟩, ?_⟩
                have := (hμ a' w' ⟨n, hjn⟩).2 n hjn
                omega
              · cases hx
          rw [hrest] at hf'
          cases hf'
          exact hwp
    · refine wp_scope_straight (ev_sound hT none b (2 * p) _ r _ hr h fun ex s' g' a' w' hx hext hrel => ?_)
      have hext2 := hext.wide hw1
      cases ex with
      | normal => exact hk .normal s' g' a' w' hx hext2 hrel
      | exit id => exact hk (.exit id) s' g' a' w' hx hext2 hrel
      | ret => exact hk .ret s' g' a' w' hx hext2 hrel
      | goto l' => cases hx
  | some l, .seq x y, p, s, g, a, w, k, r, Q, hr, h, hk => by
    have hw1 : ∀ t, wrC ann (.seq x y) p t = false → wrC ann x (2 * p) t = false := fun t ht => by simp only [wrC, Bool.or_eq_false_iff] at ht; exact ht.1
    have hw2 : ∀ t, wrC ann (.seq x y) p t = false → wrC ann y (2 * p + 1) t = false := fun t ht => by simp only [wrC, Bool.or_eq_false_iff] at ht; exact ht.2
    simp only [evC] at h
    split at h
    · obtain ⟨rest, hf, hwp⟩ := ev_sound hT (some l) x (2 * p) _ r (Exit.then (y.wp P Q) Q) hr h fun ex s' g' a' w' hx hext hrel => by
        cases ex with
        | normal => exact ev_sound hT none y (2 * p + 1) k r Q hrel hx fun ex2 s2 g2 a2 w2 hx2 hext2 hrel2 => hk ex2 s2 g2 a2 w2 hx2 (hext.trans hext2 hext.2.1 hw1 hw2) hrel2
        | exit id => exact hk (.exit id) s' g' a' w' hx (hext.wide hw1) hrel
        | ret => exact hk .ret s' g' a' w' hx (hext.wide hw1) hrel
        | goto l => exact hk (.goto l) s' g' a' w' hx (hext.wide hw1) hrel
      exact ⟨.seq rest y, by simp only [findLabel, hf], wp_seq hwp⟩
    · rename_i hf0
      obtain ⟨rest, hf, hwp⟩ := ev_sound hT (some l) y (2 * p + 1) k r Q hr h fun ex s' g' a' w' hx hext hrel => hk ex s' g' a' w' hx (hext.wide hw2) hrel
      exact ⟨rest, by simp only [findLabel, hf0]; exact hf, hwp⟩
  | some l, .label l', p, s, g, a, w, k, r, Q, hr, h, hk => by
    simp only [evC] at h
    split at h
    · rename_i hl
      exact ⟨.skip, by simp [findLabel, hl], wp_skip (hk .normal s g a w h (SExt.refl _ _ _) hr)⟩
    · cases h
  | some _, .skip, p, s, g, a, w, k, r, Q, hr, h, hk => by simp only [evC] at h; cases h
  | some _, .region .., p, s, g, a, w, k, r, Q, hr, h, hk => by simp only [evC] at h; cases h
  | some _, .cond .., p, s, g, a, w, k, r, Q, hr, h, hk => by simp only [evC] at h; cases h
  | some _, .block .., p, s, g, a, w, k, r, Q, hr, h, hk => by simp only [evC] at h; cases h
  | some _, .loop .., p, s, g, a, w, k, r, Q, hr, h, hk => by simp only [evC] at h; cases h
  | some _, .rangeFunc .., p, s, g, a, w, k, r, Q, hr, h, hk => by simp only [evC] at h; cases h
  | some _, .exit .., p, s, g, a, w, k, r, Q, hr, h, hk => by simp only [evC] at h; cases h
  | some _, .scope .., p, s, g, a, w, k, r, Q, hr, h, hk => by simp only [evC] at h; cases h
  | some _, .goto .., p, s, g, a, w, k, r, Q, hr, h, hk => by simp only [evC] at h; cases h
  | some _, .ret, p, s, g, a, w, k, r, Q, hr, h, hk => by simp only [evC] at h; cases h
  | some _, .refuse .., p, s, g, a, w, k, r, Q, hr, h, hk => by simp only [evC] at h; cases h

end Go.Proofs.Fr
