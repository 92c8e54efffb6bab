/- A verified evaluator for a part of the language: each function of the program becomes a plain function, and its contract is proved once for all. -/
import Derived.Test.YthhklfepclgcbaaFrb
import Derived.LoopN
import Derived.ScopeJumps
import Derived.SizedLaws
import Derived.ChangeSame
import Derived.Deep.Slices
import Derived.ProofKit
import Derived.OpenShut
import Derived.ChangeOld
import Derived.Carry
set_option linter.unusedVariables false
set_option linter.unusedSimpArgs false
/- Two operations in either order; all orders that the edges allow come to the same. -/
namespace Go.Proofs.Fr
open Go Go.RowKit
variable {R : Type} {P : Program} {T : Nat → List Sp} {nt : Nat} {ops : Array Oper} {bef : Array Nat} {nx0 : Nat} {fz : Nat → Bool}

theorem putE_same {e : Nat → D} {dst : Option Nat} {d : D} {t : Nat} (h : dst ≠ some t) : putE e dst d t = e t := by
  cases dst with
  | none => rfl
  | some q => exact upd_ne _ _ fun e => h (by rw [e])

theorem putE_comm {e : Nat → D} {x y : Option Nat} {d d' : D} (h : ∀ t, x = some t → y ≠ some t) : putE (putE e x d) y d' = putE (putE e y d') x d := by
  cases x with
  | none => rfl
  | some p =>
    cases y with
    | none => rfl
    | some q =>
      have hne : q ≠ p := fun e => h p rfl (by rw [e])
      funext t
      simp only [putE]
      by_cases e1 : t = q
      · subst e1; rw [upd_same, upd_ne _ _ hne, upd_same]
      · rw [upd_ne _ _ e1]
        by_cases e2 : t = p
        · subst e2; rw [upd_same, upd_same]
        · rw [upd_ne _ _ e2, upd_ne _ _ e2, upd_ne _ _ e1]

theorem setObs_comm (H : Nat → Ob) (a b : Nat) (obs obs' : List Ob) (h : a + obs.length ≤ b ∨ b + obs'.length ≤ a) : setObs (setObs H a obs) b obs' = setObs (setObs H b obs') a obs := by
  funext id
  by_cases h1 : a ≤ id ∧ id < a + obs.length
  · have hi : id - a < obs.length := by omega
    rw [(setObs_at obs' _ b id).2 (by omega), (setObs_at obs _ a id).1 (id - a) obs[id - a] (List.getElem?_eq_getElem hi) (by omega), (setObs_at obs _ a id).1 (id - a) obs[id - a] (List.getElem?_eq_getElem hi) (by omega)]
  · by_cases h2 : b ≤ id ∧ id < b + obs'.length
    · have hi : id - b < obs'.length := by omega
      rw [(setObs_at obs _ a id).2 (by omega), (setObs_at obs' _ b id).1 (id - b) obs'[id - b] (List.getElem?_eq_getElem hi) (by omega), (setObs_at obs' _ b id).1 (id - b) obs'[id - b] (List.getElem?_eq_getElem hi) (by omega)]
    · rw [(setObs_at obs' _ b id).2 (by omega), (setObs_at obs _ a id).2 (by omega), (setObs_at obs _ a id).2 (by omega), (setObs_at obs' _ b id).2 (by omega)]

/-- An operation that writes nothing: by what it may look at alone. -/
theorem eff_q {id0 : Nat} {acc : Acc} {fz : Nat → Bool} {o : Oper} (hw : isWr T o.op = false) (e : Nat → D) : ∃ q : (Nat → Vw) → Option (D × List Ob × List Nat), (∀ V d obs ids, q V = some (d, obs, ids) → obs.length ≤ 8 ∧ ∀ i ∈ ids, acc i = true ∧ acc.hid = false) ∧ ∀ H dt, eff P T ops id0 acc fz o e H dt = (q (vwl acc H)).map fun r => (r.1, setObs (frz H r.2.2) id0 r.2.1, dt) := by
  cases hg : gq ops o e with
  | none =>
    refine ⟨fun _ => none, fun V d obs ids h => ?_, fun H dt => ?_⟩
    · cases h
    · unfold eff; rw [hg]; rfl
  | some b =>
    cases b
    · refine ⟨fun _ => some (.one .skip, [], []), fun V d obs ids h => ?_, fun H dt => ?_⟩
      · cases h; simp
      · unfold eff; rw [hg]; rfl
    · refine ⟨fun V => (valK P T id0 V o.op (o.op.operands.toList.map (evD e)) fun d o i => some ((d, o, i) : Eo)).bind fun r => bif r.2.2.all (fun i => fz i && (acc i && !acc.hid)) && Nat.ble r.2.1.length 8 then some (r.1, r.2.1, r.2.2) else none, fun V d obs ids h => ?_, fun H dt => ?_⟩
      · simp only at h
        cases hk : valK P T id0 V o.op (o.op.operands.toList.map (evD e)) fun d o i => some ((d, o, i) : Eo) with
        | none => rw [hk] at h; cases h
        | some r =>
          rw [hk] at h
          simp only [Option.bind_some] at h
          cases hc : r.2.2.all (fun i => fz i && (acc i && !acc.hid)) && Nat.ble r.2.1.length 8 with
          | false => rw [hc] at h; cases h
          | true =>
            rw [hc] at h
            cases h
            simp only [Bool.and_eq_true] at hc
            refine ⟨Nat.le_of_ble_eq_true hc.2, fun i hi => ?_⟩
            have := List.all_eq_true.1 hc.1 i hi
            simp only [Bool.and_eq_true, Bool.not_eq_true'] at this
            exact this.2
      · unfold eff
        rw [hg]
        simp only [hw, cond_false]
        cases valK P T id0 (vwl acc H) o.op (o.op.operands.toList.map (evD e)) fun d o i => some ((d, o, i) : Eo) with
        | none => rfl
        | some r =>
          obtain ⟨d, obs, ids⟩ := r
          simp only [Option.bind_some]
          cases (ids.all (fun i => fz i && (acc i && !acc.hid)) && Nat.ble obs.length 8) <;> rfl

theorem Ob.freeze_vwb (o : Ob) : o.freeze.vwb = o.vwb := by cases o <;> rfl

theorem vwl_far {acc : Acc} {H : Nat → Ob} {id0 : Nat} {obs : List Ob} {ids : List Nat} (h : obs.length ≤ 8) (hacc : ∀ id, id0 ≤ id → id < id0 + 8 → acc id = false) : vwl acc (setObs (frz H ids) id0 obs) = vwl acc H := by
  funext id
  unfold vwl
  by_cases h1 : id0 ≤ id ∧ id < id0 + obs.length
  · rw [hacc id h1.1 (by omega)]; rfl
  · rw [(setObs_at obs _ id0 id).2 (by omega)]
    by_cases hi : id ∈ ids
    · rw [(frz_at ids H id).1 hi, Ob.freeze_vw, Ob.freeze_vwb]
    · rw [(frz_at ids H id).2 hi]

theorem frz_setObs {H : Nat → Ob} {id0 : Nat} {obs : List Ob} {ids : List Nat} (h : ∀ i ∈ ids, ¬ (id0 ≤ i ∧ i < id0 + obs.length)) : frz (setObs H id0 obs) ids = setObs (frz H ids) id0 obs := by
  funext id
  by_cases h1 : id0 ≤ id ∧ id < id0 + obs.length
  · have hi : id - id0 < obs.length := by omega
    rw [(frz_at ids _ id).2 (fun hm => h id hm h1), (setObs_at obs H id0 id).1 (id - id0) _ (List.getElem?_eq_getElem hi) (by omega), (setObs_at obs _ id0 id).1 (id - id0) _ (List.getElem?_eq_getElem hi) (by omega)]
  · rw [(setObs_at obs (frz H ids) id0 id).2 (by omega)]
    by_cases hi : id ∈ ids
    · rw [(frz_at ids _ id).1 hi, (frz_at ids _ id).1 hi, (setObs_at obs H id0 id).2 (by omega)]
    · rw [(frz_at ids _ id).2 hi, (frz_at ids _ id).2 hi, (setObs_at obs H id0 id).2 (by omega)]

theorem frz_frz {H : Nat → Ob} (a b : List Nat) : frz (frz H a) b = frz (frz H b) a := by
  funext id
  by_cases ha : id ∈ a <;> by_cases hb : id ∈ b
  · rw [(frz_at b _ id).1 hb, (frz_at a _ id).1 ha, (frz_at a _ id).1 ha, (frz_at b _ id).1 hb]
  · rw [(frz_at b _ id).2 hb, (frz_at a _ id).1 ha, (frz_at a _ id).1 ha, (frz_at b _ id).2 hb]
  · rw [(frz_at b _ id).1 hb, (frz_at a _ id).2 ha, (frz_at a _ id).2 ha, (frz_at b _ id).1 hb]
  · rw [(frz_at b _ id).2 hb, (frz_at a _ id).2 ha, (frz_at a _ id).2 ha, (frz_at b _ id).2 hb]

theorem both_comm {H : Nat → Ob} {a b : Nat} {oa ob : List Ob} {ia ib : List Nat} (h : a + oa.length ≤ b ∨ b + ob.length ≤ a) (ha : ∀ i ∈ ia, ¬ (b ≤ i ∧ i < b + ob.length)) (hb : ∀ i ∈ ib, ¬ (a ≤ i ∧ i < a + oa.length)) :
    setObs (frz (setObs (frz H ia) a oa) ib) b ob = setObs (frz (setObs (frz H ib) b ob) ia) a oa := by
  rw [frz_setObs hb, frz_setObs ha, frz_frz, setObs_comm _ _ _ _ _ h]

theorem acc_far {i j : Nat} (hb : (bef.getD i 0).testBit j = false) : ∀ id, nx0 + 8 * j ≤ id → id < nx0 + 8 * j + 8 → accOf T ops bef nx0 true i id = false := by
  intro id h1 h2
  unfold accOf
  have e1 : Nat.blt id nx0 = false := by
    cases h : Nat.blt id nx0
    · rfl
    · have : id < nx0 := by simpa [Nat.blt_eq] using h
      omega
  have e2 : (id - nx0) / 8 = j := by omega
  simp only [cond_true, e1, e2, hb, Bool.or_self, Bool.and_false]

theorem commOps_spec {a b : Oper} (h : commOps T ops a b = true) : ((isWr T a.op = false ∧ isWr T b.op = false) ∨ tmpOnly a.op = true ∨ tmpOnly b.op = true ∨ (isApp a.op = true ∧ isWr T b.op = false) ∨ (isApp b.op = true ∧ isWr T a.op = false) ∨ (lookOnly a.op = true ∧ wrVal T b.op = true) ∨ (lookOnly b.op = true ∧ wrVal T a.op = true)) ∧ (∀ t, a.dst = some t → t ∉ opdTmps ops b ∧ b.dst ≠ some t) ∧ (∀ t, b.dst = some t → t ∉ opdTmps ops a) := by
  unfold commOps at h
  simp only [Bool.and_eq_true, Bool.or_eq_true, Bool.not_eq_true'] at h
  obtain ⟨⟨h1, h2⟩, h3⟩ := h
  refine ⟨?_, fun t ht => ?_, fun t ht => ?_⟩
  · rcases h1 with (((((h1 | h1) | h1) | h1) | h1) | h1) | h1
    · exact .inl h1
    · exact .inr (.inl h1)
    · exact .inr (.inr (.inl h1))
    · exact .inr (.inr (.inr (.inl h1)))
    · exact .inr (.inr (.inr (.inr (.inl h1))))
    · exact .inr (.inr (.inr (.inr (.inr (.inl h1)))))
    · exact .inr (.inr (.inr (.inr (.inr (.inr h1)))))
  · rw [ht] at h2
    simp only [Bool.and_eq_true, Bool.not_eq_true', bne_iff_ne, ne_eq] at h2
    exact ⟨fun hm => by have := h2.1; simp [hm] at this, h2.2⟩
  · rw [ht] at h3
    simp only [Bool.not_eq_true'] at h3
    exact fun hm => by simp [hm] at h3

/-- What an append does: the row that it makes anew, and that which is gone. -/
def appQ (P : Program) (hb : Nat → Ob) (op : Op) (ds : List D) : Option (List Nat × Ob) :=
  match op, ds with
  | .call { callee := .builtin .append, args := _, argTypes }, [.v (.one a), .v (.one b)] =>
    match argTypes.toList with
    | [T, T'] => if T = T' then (match P.underlying T with
      | some (.slice e) => match tinfo P e, tyOf P 20 e with
        | some ti, some t => if ti.size = t.sz ∧ 0 < t.sz ∧ 0 < ti.bytes ∧ ti.zero.cells.size = ti.size then (match srcOf t hb b with
          | none => none
          | some ys => match a with
            | .nils => if ys.length ≤ maxBytes / ti.bytes then some ([], .row e t ys) else none
            | .own id => match hb id with
              | .row E t0 xs => if h : t0 = t then (if E = e ∧ notOwn b id = true then (if xs.length + ys.length ≤ maxBytes / ti.bytes then
                  some ([id], .row e t (castL h xs ++ ys)) else none) else none) else none
              | _ => none
            | .cut id n => match hb id with
              | .row E t0 xs => if h : t0 = t then (if E = e ∧ notOwn b id = true ∧ n ≤ xs.length then (if n + ys.length ≤ maxBytes / ti.bytes then
                  some ([id], .row e t ((castL h xs).take n ++ ys)) else none) else none) else none
              | _ => none
            | _ => none) else none
        | _, _ => none
      | _ => none) else none
    | _ => none
  | _, _ => none

theorem wrK_app {id0 : Nat} {hb : Nat → Ob} {op : Op} (ha : isApp op = true) (ds : List D) (s : S) (k : S → D → Option R) :
    wrK P T id0 hb op ds s k = (appQ P hb op ds).bind fun r => k { s with H := upd (goneAll s.H r.1) id0 r.2, dt := r.1 ++ s.dt } (.one (.own id0)) := by
  unfold isApp at ha
  split at ha
  · rcases ds with _ | ⟨d1, _ | ⟨d2, _ | ⟨d3, r⟩⟩⟩
    · rfl
    · rcases d1 with (_ | _) | _ <;> rfl
    · rcases d1 with (a | _) | _
      · rcases d2 with (b | _) | _
        · rename_i argTypes
          unfold wrK appQ
          dsimp only
          generalize argTypes.toList = L
          rcases L with _ | ⟨T1, _ | ⟨T2, _ | _⟩⟩
          · rfl
          · rfl
          · dsimp only
            by_cases hTT : T1 = T2
            · rw [if_pos hTT, if_pos hTT]
              cases P.underlying T1 with
              | none => rfl
              | some u =>
                cases u
                case slice e =>
                  dsimp only
                  cases tinfo P e with
                  | none => rfl
                  | some ti =>
                    cases tyOf P 20 e with
                    | none => rfl
                    | some t =>
                      dsimp only
                      by_cases hc : ti.size = t.sz ∧ 0 < t.sz ∧ 0 < ti.bytes ∧ ti.zero.cells.size = ti.size
                      · rw [if_pos hc, if_pos hc]
                        cases srcOf t hb b with
                        | none => rfl
                        | some ys =>
                          dsimp only
                          cases a
                          case nils =>
                            dsimp only
                            by_cases h1 : List.length (α := t.den) ys ≤ maxBytes / ti.bytes
                            · rw [if_pos h1, if_pos h1]; rfl
                            · rw [if_neg h1, if_neg h1]; rfl
                          case own id =>
                            dsimp only
                            cases hb id
                            case row E t0 xs =>
                              dsimp only
                              by_cases h0 : t0 = t
                              · rw [dif_pos h0, dif_pos h0]
                                by_cases h2 : E = e ∧ notOwn b id = true
                                · rw [if_pos h2, if_pos h2]
                                  by_cases h3 : List.length (α := t0.den) xs + List.length (α := t.den) ys ≤ maxBytes / ti.bytes
                                  · rw [if_pos h3, if_pos h3]; rfl
                                  · rw [if_neg h3, if_neg h3]; rfl
                                · rw [if_neg h2, if_neg h2]; rfl
                              · rw [dif_neg h0, dif_neg h0]; rfl
                            all_goals rfl
                          case cut id n =>
                            dsimp only
                            cases hb id
                            case row E t0 xs =>
                              dsimp only
                              by_cases h0 : t0 = t
                              · rw [dif_pos h0, dif_pos h0]
                                by_cases h2 : E = e ∧ notOwn b id = true ∧ n ≤ List.length (α := t0.den) xs
                                · rw [if_pos h2, if_pos h2]
                                  by_cases h3 : n + List.length (α := t.den) ys ≤ maxBytes / ti.bytes
                                  · rw [if_pos h3, if_pos h3]; rfl
                                  · rw [if_neg h3, if_neg h3]; rfl
                                · rw [if_neg h2, if_neg h2]; rfl
                              · rw [dif_neg h0, dif_neg h0]; rfl
                            all_goals rfl
                          all_goals rfl
                      · rw [if_neg hc, if_neg hc]; rfl
                all_goals rfl
            · rw [if_neg hTT, if_neg hTT]; rfl
          · rfl
        · rfl
        · rfl
      · rfl
      · rfl
    · rcases d1 with (a | _) | _
      · rcases d2 with (b | _) | _ <;> rfl
      · rfl
      · rfl
  · cases ha

theorem appQ_row {hb : Nat → Ob} {op : Op} {ds : List D} {r : List Nat × Ob} (h : appQ P hb op ds = some r) : ∀ x ∈ r.1, ∃ E t xs, hb x = .row E t xs := by
  unfold appQ at h
  repeat' (split at h)
  all_goals first
    | cases h; done
    | (cases h; intro x hx; simp at hx; done)
    | (cases h; intro x hx; simp only [List.mem_singleton] at hx; subst hx; exact ⟨_, _, _, by assumption⟩)

theorem eff_app {id0 : Nat} {acc : Acc} {fz : Nat → Bool} {o : Oper} (ha : isApp o.op = true) (e : Nat → D) : ∃ q : (Nat → Ob) → Option (D × List Nat × List Ob), (∀ hb r, q hb = some r → (∀ x ∈ r.2.1, ∃ E t xs, hb x = .row E t xs) ∧ r.2.2.length ≤ 1) ∧
    ∀ H dt, eff P T ops id0 acc fz o e H dt = (q (hbl acc H)).map fun r => (r.1, setObs (goneAll H r.2.1) id0 r.2.2, r.2.1 ++ dt) := by
  have hw : isWr T o.op = true := by
    unfold isApp at ha
    split at ha
    · rename_i h; rw [h]; rfl
    · cases ha
  cases hg : gq ops o e with
  | none => exact ⟨fun _ => none, fun hb r h => (by cases h), fun H dt => by unfold eff; rw [hg]; rfl⟩
  | some b =>
    cases b
    · exact ⟨fun _ => some (.one .skip, [], []), fun hb r h => (by cases h; simp), fun H dt => by unfold eff; rw [hg]; rfl⟩
    · refine ⟨fun hb => (appQ P hb o.op (o.op.operands.toList.map (evD e))).map fun r => (.one (.own id0), r.1, [r.2]), fun hb r h => ?_, fun H dt => ?_⟩
      · simp only [Option.map_eq_some_iff] at h
        obtain ⟨r', h', rfl⟩ := h
        exact ⟨appQ_row h', Nat.le_refl _⟩
      · unfold eff
        rw [hg]
        simp only [hw, cond_true]
        rw [wrK_app ha]
        cases appQ P (hbl acc H) o.op (o.op.operands.toList.map (evD e)) with
        | none => rfl
        | some r => rfl

theorem hid_of {i j : Nat} {a : Oper} (ha : ops[i]? = some a) (hap : isApp a.op = true) (h1 : (bef.getD i 0).testBit j = false) (h2 : (bef.getD j 0).testBit i = false) : (accOf T ops bef nx0 true j).hid = true := by
  show (true && hidOf ops bef j) = true
  rw [Bool.true_and]
  unfold hidOf
  rw [List.any_eq_true]
  refine ⟨i, List.mem_range.2 (Array.getElem?_eq_some_iff.1 ha).1, ?_⟩
  rw [ha]
  simp only [hap, h1, h2, Bool.not_false, Bool.and_self]

theorem blind_see {i j : Nat} {a b : Oper} (ha : ops[i]? = some a) (hb : ops[j]? = some b) (hl : lookOnly b.op = true) (hw : wrVal T a.op = true) (h1 : (bef.getD i 0).testBit j = false) (h2 : (bef.getD j 0).testBit i = false) : ∀ id, (accOf T ops bef nx0 true j).see id = false := by
  intro id
  have hbl : blindOf T ops bef j = true := by
    unfold blindOf
    rw [hb, Bool.and_eq_true, List.any_eq_true]
    refine ⟨hl, i, List.mem_range.2 (Array.getElem?_eq_some_iff.1 ha).1, ?_⟩
    rw [ha]
    simp only [hw, h1, h2, Bool.not_false, Bool.and_self]
  unfold accOf
  simp only [hbl, Bool.and_self, Bool.not_true, Bool.false_and]

/-- An append and what is in no order to it. -/
theorem app_comm {i j : Nat} {a b : Oper} {dst dst' : Option Nat} {e0 : Nat → D} (hij : i ≠ j) (hap : isApp a.op = true) (hw : isWr T b.op = false) (ha : ops[i]? = some a)
    (h1 : (bef.getD i 0).testBit j = false) (h2 : (bef.getD j 0).testBit i = false) (e : Nat → D) (H : Nat → Ob) (dt : List Nat) (nx : Nat)
    (hcomm : ∀ d d', putE (putE e0 dst' d') dst d = putE (putE e0 dst d) dst' d') :
    ((eff P T ops (nx0 + 8 * j) (accOf T ops bef nx0 true j) fz b e H dt).bind fun r => (eff P T ops (nx0 + 8 * i) (accOf T ops bef nx0 true i) fz a e r.2.1 r.2.2).map fun q => ({ e := putE (putE e0 dst' r.1) dst q.1, H := q.2.1, nx := nx, dt := q.2.2 } : S)) =
    (eff P T ops (nx0 + 8 * i) (accOf T ops bef nx0 true i) fz a e H dt).bind fun r => (eff P T ops (nx0 + 8 * j) (accOf T ops bef nx0 true j) fz b e r.2.1 r.2.2).map fun q => ({ e := putE (putE e0 dst r.1) dst' q.1, H := q.2.1, nx := nx, dt := q.2.2 } : S) := by
  have hhid := hid_of (T := T) (nx0 := nx0) ha hap h1 h2
  obtain ⟨qa, qap, qae⟩ := eff_app (P := P) (T := T) (ops := ops) (id0 := nx0 + 8 * i) (acc := accOf T ops bef nx0 true i) (fz := fz) hap e
  obtain ⟨qb, qb8, qbe⟩ := eff_q (P := P) (T := T) (ops := ops) (id0 := nx0 + 8 * j) (acc := accOf T ops bef nx0 true j) (fz := fz) hw e
  simp only [qae, qbe]
  -- what the one makes the other one does not see
  have hbf : ∀ obs : List Ob, obs.length ≤ 8 → hbl (accOf T ops bef nx0 true i) (setObs H (nx0 + 8 * j) obs) = hbl (accOf T ops bef nx0 true i) H := by
    intro obs ho
    funext id
    unfold hbl
    by_cases hin : nx0 + 8 * j ≤ id ∧ id < nx0 + 8 * j + obs.length
    · rw [acc_far h1 id hin.1 (by omega)]; rfl
    · rw [(setObs_at obs H _ id).2 (by omega)]
  have hvf : ∀ (l : List Nat) (obs : List Ob), obs.length ≤ 1 → (∀ x ∈ l, ∃ E t xs, hbl (accOf T ops bef nx0 true i) H x = .row E t xs) → vwl (accOf T ops bef nx0 true j) (setObs (goneAll H l) (nx0 + 8 * i) obs) = vwl (accOf T ops bef nx0 true j) H := by
    intro l obs ho hl
    funext id
    unfold vwl
    rw [hhid]
    by_cases hin : nx0 + 8 * i ≤ id ∧ id < nx0 + 8 * i + obs.length
    · rw [acc_far h2 id hin.1 (by omega)]; rfl
    · rw [(setObs_at obs _ _ id).2 (by omega)]
      by_cases hm : id ∈ l
      · rw [(goneAll_at l H id).1 hm]
        obtain ⟨E, t, xs, hx⟩ := hl id hm
        unfold hbl at hx
        cases hacc : (accOf T ops bef nx0 true i).see id with
        | false => rw [hacc] at hx; cases hx
        | true =>
          rw [hacc] at hx
          have hx' : H id = .row E t xs := hx
          rw [hx']
          rfl
      · rw [(goneAll_at l H id).2 hm]
  have hmix : ∀ (l : List Nat) (oa ob : List Ob), oa.length ≤ 1 → ob.length ≤ 8 → (∀ x ∈ l, ∃ E t xs, hbl (accOf T ops bef nx0 true i) H x = .row E t xs) → setObs (goneAll (setObs H (nx0 + 8 * j) ob) l) (nx0 + 8 * i) oa = setObs (setObs (goneAll H l) (nx0 + 8 * i) oa) (nx0 + 8 * j) ob := by
    intro l oa ob ho1 ho2 hl
    rw [setObs_comm (goneAll H l) _ _ _ _ (by omega)]
    congr 1
    funext id
    by_cases hin : nx0 + 8 * j ≤ id ∧ id < nx0 + 8 * j + ob.length
    · have hnm : id ∉ l := by
        intro hm
        obtain ⟨E, t, xs, hx⟩ := hl id hm
        unfold hbl at hx
        rw [acc_far h1 id hin.1 (by omega)] at hx
        cases hx
      have hi : id - (nx0 + 8 * j) < ob.length := by omega
      rw [(goneAll_at l _ id).2 hnm, (setObs_at ob H _ id).1 _ _ (List.getElem?_eq_getElem hi) (by omega), (setObs_at ob (goneAll H l) _ id).1 _ _ (List.getElem?_eq_getElem hi) (by omega)]
    · rw [(setObs_at ob (goneAll H l) _ id).2 (by omega)]
      by_cases hm : id ∈ l
      · rw [(goneAll_at l _ id).1 hm, (goneAll_at l _ id).1 hm]
      · rw [(goneAll_at l _ id).2 hm, (goneAll_at l _ id).2 hm, (setObs_at ob H _ id).2 (by omega)]
  have hnof : ∀ r, qb (vwl (accOf T ops bef nx0 true j) H) = some r → r.2.2 = [] := by
    intro r hr
    cases hids : r.2.2 with
    | nil => rfl
    | cons x l =>
      have := ((qb8 _ r.1 r.2.1 r.2.2 hr).2 x (by rw [hids]; exact .head _)).2
      rw [hhid] at this; cases this
  cases hqb : qb (vwl (accOf T ops bef nx0 true j) H) with
  | none =>
    cases hqa : qa (hbl (accOf T ops bef nx0 true i) H) with
    | none => rfl
    | some ra =>
      simp only [Option.map_none, Option.bind_none, Option.map_some, Option.bind_some]
      rw [hvf _ _ (qap _ _ hqa).2 (qap _ _ hqa).1, hqb]; rfl
  | some rb =>
    have hn := hnof rb hqb
    have h8 : rb.2.1.length ≤ 8 := (qb8 _ rb.1 rb.2.1 rb.2.2 hqb).1
    simp only [Option.map_some, Option.bind_some, hn]
    have hfr : frz H ([] : List Nat) = H := rfl
    rw [hfr, hbf _ h8]
    cases hqa : qa (hbl (accOf T ops bef nx0 true i) H) with
    | none => rfl
    | some ra =>
      simp only [Option.map_some, Option.bind_some]
      rw [hvf _ _ (qap _ _ hqa).2 (qap _ _ hqa).1, hqb]
      simp only [Option.map_some, hn]
      have hfr2 : ∀ H : Nat → Ob, frz H ([] : List Nat) = H := fun _ => rfl
      rw [hfr2, hcomm, hmix _ _ _ (qap _ _ hqa).2 h8 (qap _ _ hqa).1]

/-- Two operations that no edge orders. -/
theorem step_comm {i j : Nat} {a b : Oper} (hij : i ≠ j) (ha : ops[i]? = some a) (hb : ops[j]? = some b) (hda : dstOk nt a.dst = true) (hdb : dstOk nt b.dst = true) (hc : commOps T ops a b = true)
    (h1 : (bef.getD i 0).testBit j = false) (h2 : (bef.getD j 0).testBit i = false) (s : S) :
    (stepD P T nt ops bef nx0 true fz i s).bind (stepD P T nt ops bef nx0 true fz j) = (stepD P T nt ops bef nx0 true fz j s).bind (stepD P T nt ops bef nx0 true fz i) := by
  obtain ⟨hcl, hab, hba⟩ := commOps_spec hc
  have ea : ∀ d H dt, eff P T ops (nx0 + 8 * i) (accOf T ops bef nx0 true i) fz a (putE s.e b.dst d) H dt = eff P T ops (nx0 + 8 * i) (accOf T ops bef nx0 true i) fz a s.e H dt := fun d H dt => eff_e (fun t ht => putE_same fun e => hba t e ht) H dt
  have eb : ∀ d H dt, eff P T ops (nx0 + 8 * j) (accOf T ops bef nx0 true j) fz b (putE s.e a.dst d) H dt = eff P T ops (nx0 + 8 * j) (accOf T ops bef nx0 true j) fz b s.e H dt := fun d H dt => eff_e (fun t ht => putE_same fun e => (hab t e).1 ht) H dt
  rw [stepD_eq ha hda, stepD_eq hb hdb]
  have hcomm : ∀ d d', putE (putE s.e a.dst d) b.dst d' = putE (putE s.e b.dst d') a.dst d := fun d d' => putE_comm fun t ht => (hab t ht).2
  have L : ((eff P T ops (nx0 + 8 * i) (accOf T ops bef nx0 true i) fz a s.e s.H s.dt).map fun r => ({ e := putE s.e a.dst r.1, H := r.2.1, nx := s.nx, dt := r.2.2 } : S)).bind (stepD P T nt ops bef nx0 true fz j) =
      (eff P T ops (nx0 + 8 * i) (accOf T ops bef nx0 true i) fz a s.e s.H s.dt).bind fun r => (eff P T ops (nx0 + 8 * j) (accOf T ops bef nx0 true j) fz b s.e r.2.1 r.2.2).map fun q => ({ e := putE (putE s.e a.dst r.1) b.dst q.1, H := q.2.1, nx := s.nx, dt := q.2.2 } : S) := by
    cases eff P T ops (nx0 + 8 * i) (accOf T ops bef nx0 true i) fz a s.e s.H s.dt with
    | none => rfl
    | some r => simp only [Option.map_some, Option.bind_some]; rw [stepD_eq hb hdb]; simp only [eb]
  have Rr : ((eff P T ops (nx0 + 8 * j) (accOf T ops bef nx0 true j) fz b s.e s.H s.dt).map fun r => ({ e := putE s.e b.dst r.1, H := r.2.1, nx := s.nx, dt := r.2.2 } : S)).bind (stepD P T nt ops bef nx0 true fz i) =
      (eff P T ops (nx0 + 8 * j) (accOf T ops bef nx0 true j) fz b s.e s.H s.dt).bind fun r => (eff P T ops (nx0 + 8 * i) (accOf T ops bef nx0 true i) fz a s.e r.2.1 r.2.2).map fun q => ({ e := putE (putE s.e b.dst r.1) a.dst q.1, H := q.2.1, nx := s.nx, dt := q.2.2 } : S) := by
    cases eff P T ops (nx0 + 8 * j) (accOf T ops bef nx0 true j) fz b s.e s.H s.dt with
    | none => rfl
    | some r => simp only [Option.map_some, Option.bind_some]; rw [stepD_eq ha hda]; simp only [ea]
  rw [L, Rr]
  rcases hcl with ⟨hwa, hwb⟩ | ht | ht | ⟨hap, hw⟩ | ⟨hap, hw⟩ | ⟨hlo, hwv⟩ | ⟨hlo, hwv⟩
  · obtain ⟨qa, qa8, qae⟩ := eff_q (P := P) (T := T) (ops := ops) (id0 := nx0 + 8 * i) (acc := accOf T ops bef nx0 true i) (fz := fz) hwa s.e
    obtain ⟨qb, qb8, qbe⟩ := eff_q (P := P) (T := T) (ops := ops) (id0 := nx0 + 8 * j) (acc := accOf T ops bef nx0 true j) (fz := fz) hwb s.e
    simp only [qae, qbe]
    cases hqa : qa (vwl (accOf T ops bef nx0 true i) s.H) with
    | none =>
      cases hqb : qb (vwl (accOf T ops bef nx0 true j) s.H) with
      | none => rfl
      | some rb =>
        simp only [Option.map_none, Option.bind_none, Option.map_some, Option.bind_some]
        rw [vwl_far (qb8 _ _ _ _ hqb).1 (acc_far h1), hqa]; rfl
    | some ra =>
      simp only [Option.map_some, Option.bind_some]
      rw [vwl_far (qa8 _ _ _ _ hqa).1 (acc_far h2)]
      cases hqb : qb (vwl (accOf T ops bef nx0 true j) s.H) with
      | none => rfl
      | some rb =>
        simp only [Option.map_some, Option.bind_some]
        rw [vwl_far (qb8 _ _ _ _ hqb).1 (acc_far h1), hqa]
        simp only [Option.map_some]
        have a1 : ra.2.1.length ≤ 8 := (qa8 _ _ _ _ hqa).1
        have a2 : ∀ i' ∈ ra.2.2, accOf T ops bef nx0 true i i' = true := fun q hq => ((qa8 _ _ _ _ hqa).2 q hq).1
        have b1 : rb.2.1.length ≤ 8 := (qb8 _ _ _ _ hqb).1
        have b2 : ∀ i' ∈ rb.2.2, accOf T ops bef nx0 true j i' = true := fun q hq => ((qb8 _ _ _ _ hqb).2 q hq).1
        rw [hcomm, both_comm (H := s.H) (a := nx0 + 8 * i) (b := nx0 + 8 * j) (oa := ra.2.1) (ob := rb.2.1) (ia := ra.2.2) (ib := rb.2.2) (by omega) (fun q hq hc => by have := acc_far (T := T) (ops := ops) (nx0 := nx0) h1 q (by omega) (by omega); rw [a2 q hq] at this; cases this) (fun q hq hc => by have := acc_far (T := T) (ops := ops) (nx0 := nx0) h2 q (by omega) (by omega); rw [b2 q hq] at this; cases this)]
  · obtain ⟨d?, hd⟩ := eff_tmp (P := P) (T := T) (ops := ops) (id0 := nx0 + 8 * i) (acc := accOf T ops bef nx0 true i) (fz := fz) ht s.e
    simp only [hd]
    cases d? with
    | none =>
      cases eff P T ops (nx0 + 8 * j) (accOf T ops bef nx0 true j) fz b s.e s.H s.dt <;> rfl
    | some d =>
      simp only [Option.map_some, Option.bind_some]
      cases eff P T ops (nx0 + 8 * j) (accOf T ops bef nx0 true j) fz b s.e s.H s.dt with
      | none => rfl
      | some q => simp only [Option.map_some, Option.bind_some, hcomm]
  · obtain ⟨d?, hd⟩ := eff_tmp (P := P) (T := T) (ops := ops) (id0 := nx0 + 8 * j) (acc := accOf T ops bef nx0 true j) (fz := fz) ht s.e
    simp only [hd]
    cases d? with
    | none =>
      cases eff P T ops (nx0 + 8 * i) (accOf T ops bef nx0 true i) fz a s.e s.H s.dt <;> rfl
    | some d =>
      simp only [Option.map_some, Option.bind_some]
      cases eff P T ops (nx0 + 8 * i) (accOf T ops bef nx0 true i) fz a s.e s.H s.dt with
      | none => rfl
      | some q => simp only [Option.map_some, Option.bind_some, hcomm]

  · exact (app_comm (ops := ops) (bef := bef) (fz := fz) (dst := a.dst) (dst' := b.dst) (e0 := s.e) hij hap hw ha h1 h2 s.e s.H s.dt s.nx fun d d' => (hcomm d d').symm).symm
  · exact app_comm (ops := ops) (bef := bef) (fz := fz) (dst := b.dst) (dst' := a.dst) (e0 := s.e) (Ne.symm hij) hap hw hb h2 h1 s.e s.H s.dt s.nx fun d d' => hcomm d' d
  · obtain ⟨d?, hd⟩ := eff_look (P := P) (T := T) (ops := ops) (id0 := nx0 + 8 * i) (acc := accOf T ops bef nx0 true i) (fz := fz) hlo (blind_see (nx0 := nx0) hb ha hlo hwv h2 h1) s.e
    simp only [hd]
    cases d? with
    | none =>
      cases eff P T ops (nx0 + 8 * j) (accOf T ops bef nx0 true j) fz b s.e s.H s.dt <;> rfl
    | some d =>
      simp only [Option.map_some, Option.bind_some]
      cases eff P T ops (nx0 + 8 * j) (accOf T ops bef nx0 true j) fz b s.e s.H s.dt with
      | none => rfl
      | some q => simp only [Option.map_some, Option.bind_some, hcomm]
  · obtain ⟨d?, hd⟩ := eff_look (P := P) (T := T) (ops := ops) (id0 := nx0 + 8 * j) (acc := accOf T ops bef nx0 true j) (fz := fz) hlo (blind_see (nx0 := nx0) ha hb hlo hwv h1 h2) s.e
    simp only [hd]
    cases d? with
    | none =>
      cases eff P T ops (nx0 + 8 * i) (accOf T ops bef nx0 true i) fz a s.e s.H s.dt <;> rfl
    | some d =>
      simp only [Option.map_some, Option.bind_some]
      cases eff P T ops (nx0 + 8 * i) (accOf T ops bef nx0 true i) fz a s.e s.H s.dt with
      | none => rfl
      | some q => simp only [Option.map_some, Option.bind_some, hcomm]

/-- An operation that hangs on none of those ahead of it comes first. -/
theorem run_bubble {i : Nat} : ∀ (A C : List Nat) (s : S), (∀ a ∈ A, ∀ s, (stepD P T nt ops bef nx0 true fz a s).bind (stepD P T nt ops bef nx0 true fz i) = (stepD P T nt ops bef nx0 true fz i s).bind (stepD P T nt ops bef nx0 true fz a)) →
    runD P T nt ops bef nx0 true fz (A ++ i :: C) s = (stepD P T nt ops bef nx0 true fz i s).bind (runD P T nt ops bef nx0 true fz (A ++ C))
  | [], C, s, _ => rfl
  | a :: A, C, s, h => by
    simp only [List.cons_append, runD]
    have ih : ∀ s, runD P T nt ops bef nx0 true fz (A ++ i :: C) s = (stepD P T nt ops bef nx0 true fz i s).bind (runD P T nt ops bef nx0 true fz (A ++ C)) := fun s => run_bubble A C s fun b hb => h b (.tail _ hb)
    have e1 : (stepD P T nt ops bef nx0 true fz a s).bind (runD P T nt ops bef nx0 true fz (A ++ i :: C)) = ((stepD P T nt ops bef nx0 true fz a s).bind (stepD P T nt ops bef nx0 true fz i)).bind (runD P T nt ops bef nx0 true fz (A ++ C)) := by
      rw [bind_comp]; congr 1; funext s'; exact ih s'
    rw [e1, h a (.head _) s, bind_comp]

end Go.Proofs.Fr

/- A region does what its plain form says, in whatever order it draws. -/
namespace Go.Proofs.Fr
open Go Go.RowKit
variable {R : Type} {P : Program} {T : Nat → List Sp} {nt : Nat} {ops : Array Oper} {bef : Array Nat} {nx0 : Nat} {dr : Bool} {fz : Nat → Bool} {B : Bs} {fr : Nat → Prop} {s s' : S} {g : Nat → Value} {a : Act} {w : World} {Q : Exit → Act → World → Prop}

/-- What a piece of code may change: slots, objects (told in dt). -/
def SExt (wr : Nat → Bool) (lim : Nat) (s s' : S) : Prop :=
  (∀ t, wr t = false → s'.e t = s.e t) ∧ s.nx ≤ s'.nx ∧ ∃ new, s'.dt = new ++ s.dt ∧ ∀ id, id < lim → id ∉ new → s'.H id = s.H id

theorem SExt.refl (wr : Nat → Bool) (lim : Nat) (s : S) : SExt wr lim s s := ⟨fun _ _ => rfl, Nat.le_refl _, [], rfl, fun _ _ _ => rfl⟩
theorem SExt.trans {wr wr' wr2 : Nat → Bool} {lim lim' : Nat} {s1 s2 s3 : S} (h : SExt wr lim s1 s2) (h' : SExt wr' lim' s2 s3) (hl : lim ≤ lim') (h1 : ∀ t, wr2 t = false → wr t = false) (h2 : ∀ t, wr2 t = false → wr' t = false) : SExt wr2 lim s1 s3 := by
  obtain ⟨a1, b1, n1, c1, d1⟩ := h
  obtain ⟨a2, b2, n2, c2, d2⟩ := h'
  refine ⟨fun t ht => (a2 t (h2 t ht)).trans (a1 t (h1 t ht)), Nat.le_trans b1 b2, n2 ++ n1, by rw [c2, c1, List.append_assoc], fun id hi hn => ?_⟩
  simp only [List.mem_append, not_or] at hn
  exact (d2 id (by omega) hn.1).trans (d1 id hi hn.2)

theorem hvw_of (acc : Acc) (H : Nat → Ob) : ∀ id, vwl acc H id = .no ∨ vwl acc H id = (H id).vw := by
  intro id
  unfold vwl
  cases acc id
  · exact .inl rfl
  · cases acc.hid
    · exact .inr rfl
    · cases H id <;> first | exact .inl rfl | exact .inr rfl
theorem hhb_of (acc : Acc) (H : Nat → Ob) : ∀ id, hbl acc H id = .gone ∨ hbl acc H id = H id := by
  intro id
  unfold hbl
  cases acc id
  · exact .inl rfl
  · exact .inr rfl

theorem wrK_ext (P : Program) (T : Nat → List Sp) (id0 : Nat) (hb : Nat → Ob) (op : Op) (ds : List D) (s : S) {r : S × D} (h : (wrK P T id0 hb op ds s fun s d => some (s, d)) = some r) : ∃ new, r.1.dt = new ++ s.dt ∧ ∀ id, id < id0 → id ∉ new → r.1.H id = s.H id := by
  unfold wrK at h
  split at h
  case h_4 =>
    split at h
    · exact callK_ext _ _ _ _ _ h
    · split at h
      · exact callK_ext _ _ _ _ _ h
      · cases h
    · cases h
  all_goals repeat' (first
    | (cases h; first
        | exact ⟨[], rfl, fun j hj _ => upd_ne _ _ (by omega)⟩
        | exact ⟨[_], rfl, fun j _ hn => upd_ne _ _ (by simpa using hn)⟩
        | exact ⟨[_], rfl, fun j hj hn => (upd_ne _ _ (by omega)).trans (upd_ne _ _ (by simpa using hn))⟩
        | done)
    | split at h
    | (dsimp only at h; split at h))

theorem Rel.dt_ (hr : Rel B nt fr s g a w) (x : List Nat) : Rel B nt fr { s with dt := x } g a w := ⟨hr.slots, hr.sold, hr.objs, hr.kold, hr.disj, hr.base, hr.frm, hr.fresh, hr.size, hr.dfr, hr.kp⟩

theorem opK_ext {id0 : Nat} {acc : Acc} {o : Oper} (h : opK P T id0 acc fz dr o s some = some s') : (∀ t, o.dst ≠ some t → s'.e t = s.e t) ∧ s'.nx = s.nx ∧ ∃ new, s'.dt = new ++ s.dt ∧ ∀ id, id < id0 → id ∉ new → fz id = false ∨ dr = false → s'.H id = s.H id := by
  unfold opK at h
  cases hw : isWr T o.op with
  | true =>
    rw [hw] at h
    simp only [cond_true] at h
    rw [wrK_nat (k := fun s' d => some (s'.put o.dst d))] at h
    cases hk : wrK P T id0 (hbl acc s.H) o.op (o.op.operands.toList.map (evD s.e)) s fun s d => some (s, d) with
    | none => rw [hk] at h; cases h
    | some r =>
      rw [hk] at h
      cases h
      obtain ⟨e1, e2⟩ := wrK_same _ _ _ _ _ _ _ hk
      obtain ⟨new, e3, e4⟩ := wrK_ext _ _ _ _ _ _ _ hk
      refine ⟨fun t ht => ?_, ?_, new, ?_, fun id h1 h2 _ => ?_⟩
      · rw [put_putE]; show putE r.1.e o.dst _ t = _; rw [putE_same ht, e1]
      · rw [put_putE]; exact e2
      · rw [put_putE]; exact e3
      · rw [put_putE]; exact e4 id h1 h2
  | false =>
    rw [hw] at h
    simp only [cond_false] at h
    rw [valK_nat (k := fun d obs ids => bif dr then (bif ids.all (fun i => fz i && (acc i && !acc.hid)) && Nat.ble obs.length 8 then some ({ s.commit o.dst id0 d obs ids with dt := s.dt } : S) else none) else some (s.commit o.dst id0 d obs ids))] at h
    cases hk : valK P T id0 (vwl acc s.H) o.op (o.op.operands.toList.map (evD s.e)) fun d o i => some ((d, o, i) : Eo) with
    | none => rw [hk] at h; cases h
    | some r =>
      rw [hk] at h
      obtain ⟨d, obs, ids⟩ := r
      simp only [Option.bind_some] at h
      cases dr with
      | true =>
        simp only [cond_true] at h
        cases hc : ids.all (fun i => fz i && (acc i && !acc.hid)) && Nat.ble obs.length 8 with
        | false => rw [hc] at h; cases h
        | true =>
          rw [hc] at h
          simp only [cond_true] at h
          cases h
          simp only [Bool.and_eq_true] at hc
          refine ⟨fun t ht => ?_, rfl, [], rfl, fun id hi _ hf => ?_⟩
          · show (s.put o.dst d).e t = _
            rw [put_putE]; exact putE_same ht
          · show setObs (frz s.H ids) id0 obs id = _
            rw [(setObs_at obs _ id0 id).2 (.inl hi), (frz_at ids s.H id).2 (fun hm => ?_)]
            have := List.all_eq_true.1 hc.1 id hm
            simp only [Bool.and_eq_true] at this
            rcases hf with hf | hf
            · rw [hf] at this; cases this.1
            · cases hf
      | false =>
        simp only [cond_false] at h
        cases h
        refine ⟨fun t ht => ?_, rfl, ids, rfl, fun id hi hn _ => ?_⟩
        · show (s.put o.dst d).e t = _
          rw [put_putE]; exact putE_same ht
        · show setObs (frz s.H ids) id0 obs id = _
          rw [(setObs_at obs _ id0 id).2 (.inl hi), (frz_at ids s.H id).2 hn]

theorem opK_sound (hT : ∀ f sp, sp ∈ T f → Sound P f sp) {id0 : Nat} {acc : Acc} {o : Oper} (hr : Rel B nt fr s g a w) (hfr : ∀ j, id0 ≤ j → j < id0 + 8 → fr j) (hd : dstOk nt o.dst = true) (h : opK P T id0 acc fz dr o s some = some s') :
    (∀ (next : Act → World → Prop) (Q : Exit → Act → World → Prop), (∀ g' a' w', Rel B nt (less fr id0) s' g' a' w' → next a' w') → o.wp P a w next Q) := by
  unfold opK at h
  cases hw : isWr T o.op with
  | true =>
    rw [hw] at h
    simp only [cond_true] at h
    obtain ⟨s1, d, hk, _, hg⟩ := wrK_sound hT (hhb_of acc s.H) hr hfr hd h
    cases hk
    exact hg
  | false =>
    rw [hw] at h
    simp only [cond_false] at h
    obtain ⟨d, obs, ids, hk, hg⟩ := valK_sound hT (hvw_of acc s.H) hr hfr hd h
    simp only at hk
    cases dr with
    | true =>
      simp only [cond_true] at hk
      cases hc : ids.all (fun i => fz i && (acc i && !acc.hid)) && Nat.ble obs.length 8 with
      | false => rw [hc] at hk; cases hk
      | true =>
        rw [hc] at hk
        simp only [cond_true] at hk
        cases hk
        exact fun next Q hn => hg next Q fun g' a' w' hrel => hn g' a' w' (hrel.dt_ s.dt)
    | false =>
      simp only [cond_false] at hk
      cases hk
      exact hg

theorem yield_of {t j : Nat} (hr : Rel B nt fr s g a w) (hj : (ops[j]?).bind (·.dst) = some t) :
    (∀ b, s.e t = .one (.bool b) → yielded ops a.tmps j = some b) ∧ (s.e t = .one .skip → yielded ops a.tmps j = none) := by
  have h := hr.slots t
  unfold yielded
  rw [hj]
  simp only [Option.bind_some]
  constructor
  · intro b hb
    rw [hb] at h
    have hv : a.tmps.getD t undef = .bool b := h
    rw [Array.getD_eq_getD_getElem?] at hv
    cases hq : a.tmps[t]? with
    | none => rw [hq] at hv; cases hv
    | some v => rw [hq] at hv; simp only [Option.getD_some] at hv; subst hv; rfl
  · intro hb
    rw [hb] at h
    have hv : a.tmps.getD t undef = undef := h
    rw [Array.getD_eq_getD_getElem?] at hv
    cases hq : a.tmps[t]? with
    | none => rfl
    | some v => rw [hq] at hv; simp only [Option.getD_some] at hv; subst hv; rfl

theorem step_sound (hT : ∀ f sp, sp ∈ T f → Sound P f sp) {i : Nat} (hr : Rel B nt fr s g a w) (hfr : ∀ j, nx0 + 8 * i ≤ j → j < nx0 + 8 * i + 8 → fr j) (h : stepD P T nt ops bef nx0 dr fz i s = some s') :
    (∀ (K : Act → World → Prop), (∀ g' a' w', Rel B nt (less fr (nx0 + 8 * i)) s' g' a' w' → K a' w') → wpOp P ops Q i K a w) := by
  unfold stepD at h
  cases ho : ops[i]? with
  | none => rw [ho] at h; cases h
  | some o =>
    rw [ho] at h
    simp only at h
    cases hd : dstOk nt o.dst with
    | false => rw [hd] at h; cases h
    | true =>
      rw [hd] at h
      simp only [cond_true] at h
      have hwr : ∀ t, wrOps ops.toList t = false → o.dst ≠ some t := by
        intro t ht e
        have hm : o ∈ ops.toList := by rw [Array.mem_toList_iff]; exact Array.mem_of_getElem? ho
        have : wrOps ops.toList t = true := List.any_eq_true.2 ⟨o, hm, by rw [e]; simp⟩
        rw [ht] at this; cases this
      cases hg : gq ops o s.e with
      | none => rw [hg] at h; cases h
      | some b =>
        rw [hg] at h
        have hw : Region.wanted o (yielded ops a.tmps) = b := by
          unfold Region.wanted
          unfold gq at hg
          cases hgd : o.guard with
          | none => rw [hgd] at hg; cases hg; rfl
          | some jw =>
            obtain ⟨j, want⟩ := jw
            rw [hgd] at hg
            simp only at hg ⊢
            cases ht : (ops[j]?).bind (·.dst) with
            | none => rw [ht] at hg; cases hg
            | some t =>
              rw [ht] at hg
              simp only at hg
              obtain ⟨y1, y2⟩ := yield_of (ops := ops) hr ht
              cases he : s.e t with
              | tup q => rw [he] at hg; cases hg
              | v d => cases d with
                | agg q => rw [he] at hg; cases hg
                | one l =>
                  rw [he] at hg
                  cases l <;> first | (cases hg; done) | skip
                  · cases hg; rw [y2 he]; rfl
                  · rename_i b'
                    cases hg
                    rw [y1 b' he]
                    cases b' <;> cases want <;> rfl
        cases b with
        | true =>
          simp only at h
          have q1 := opK_sound hT hr hfr hd h
          intro K hK
          unfold wpOp
          rw [ho]
          simp only [hw, if_true]
          exact .inl (q1 K Q hK)
        | false =>
          cases h
          intro K hK
          unfold wpOp
          rw [ho]
          simp only [hw, Bool.false_eq_true, if_false]
          exact hK g _ _ ((hr.weak fun j hj => hj.1).put_ hd rfl (by simp [D.ids, D0.ids, D0.ls, L.ids]))

/-- What some steps change: but what the region is told to freeze. -/
def DExt (wr : Nat → Bool) (lim : Nat) (fz : Nat → Bool) (dr : Bool) (s s' : S) : Prop :=
  (∀ t, wr t = false → s'.e t = s.e t) ∧ s.nx ≤ s'.nx ∧ ∃ new, s'.dt = new ++ s.dt ∧ ∀ id, id < lim → id ∉ new → fz id = false ∨ dr = false → s'.H id = s.H id
theorem DExt.refl (wr : Nat → Bool) (lim : Nat) (s : S) : DExt wr lim fz dr s s := ⟨fun _ _ => rfl, Nat.le_refl _, [], rfl, fun _ _ _ _ => rfl⟩
theorem DExt.trans {wr : Nat → Bool} {lim : Nat} {s1 s2 s3 : S} (h : DExt wr lim fz dr s1 s2) (h' : DExt wr lim fz dr s2 s3) : DExt wr lim fz dr s1 s3 := by
  obtain ⟨a1, b1, n1, c1, d1⟩ := h
  obtain ⟨a2, b2, n2, c2, d2⟩ := h'
  refine ⟨fun t ht => (a2 t ht).trans (a1 t ht), Nat.le_trans b1 b2, n2 ++ n1, by rw [c2, c1, List.append_assoc], fun id hi hn hf => ?_⟩
  simp only [List.mem_append, not_or] at hn
  exact (d2 id hi hn.1 hf).trans (d1 id hi hn.2 hf)

theorem step_ext {i : Nat} (h : stepD P T nt ops bef nx0 dr fz i s = some s') : DExt (wrOps ops.toList) nx0 fz dr s s' := by
  unfold stepD at h
  cases ho : ops[i]? with
  | none => rw [ho] at h; cases h
  | some o =>
    rw [ho] at h
    simp only at h
    have hwr : ∀ t, wrOps ops.toList t = false → o.dst ≠ some t := by
      intro t ht e
      have hm : o ∈ ops.toList := by rw [Array.mem_toList_iff]; exact Array.mem_of_getElem? ho
      have : wrOps ops.toList t = true := List.any_eq_true.2 ⟨o, hm, by rw [e]; simp⟩
      rw [ht] at this; cases this
    cases hd : dstOk nt o.dst with
    | false => rw [hd] at h; cases h
    | true =>
      rw [hd] at h
      simp only [cond_true] at h
      cases hg : gq ops o s.e with
      | none => rw [hg] at h; cases h
      | some b =>
        rw [hg] at h
        cases b with
        | true =>
          obtain ⟨q2, q3, new, q4, q5⟩ := opK_ext h
          exact ⟨fun t ht => q2 t (hwr t ht), Nat.le_of_eq q3.symm, new, q4, fun id hi hn hf => q5 id (by omega) hn hf⟩
        | false =>
          cases h
          exact ⟨fun t ht => by rw [put_putE]; exact putE_same (hwr t ht), by rw [put_putE]; exact Nat.le_refl _, [], by rw [put_putE]; rfl, fun id _ _ _ => by rw [put_putE]⟩

theorem run_ext : ∀ (L : List Nat) (s sf : S), runD P T nt ops bef nx0 dr fz L s = some sf → DExt (wrOps ops.toList) nx0 fz dr s sf
  | [], s, sf, h => by cases h; exact DExt.refl _ _ _
  | i :: r, s, sf, h => by
    simp only [runD] at h
    cases hs : stepD P T nt ops bef nx0 dr fz i s with
    | none => rw [hs] at h; cases h
    | some s1 =>
      rw [hs] at h
      exact (step_ext hs).trans (run_ext r s1 sf h)

/-- The names that are still free. -/
def frL (nx0 n : Nat) (L : List Nat) : Nat → Prop := fun id => nx0 + 8 * n ≤ id ∨ ∃ i ∈ L, nx0 + 8 * i ≤ id ∧ id < nx0 + 8 * i + 8

theorem text_sound (hT : ∀ f sp, sp ∈ T f → Sound P f sp) : ∀ (L : List Nat) {s sf : S} {g : Nat → Value} {a : Act} {w : World}, L.Nodup → (∀ i ∈ L, i < ops.size) → Rel B nt (frL nx0 ops.size L) s g a w → runD P T nt ops bef nx0 dr fz L s = some sf →
    ((∀ g' a' w', Rel B nt (frL nx0 ops.size []) sf g' a' w' → Q .normal a' w') → wpOps P ops Q L a w)
  | [], s, sf, g, a, w, _, _, hr, h => by
    cases h
    exact fun hQ => hQ g a w hr
  | i :: r, s, sf, g, a, w, hn, hlt, hr, h => by
    simp only [runD] at h
    cases hs : stepD P T nt ops bef nx0 dr fz i s with
    | none => rw [hs] at h; cases h
    | some s1 =>
      rw [hs] at h
      simp only [Option.bind_some] at h
      have h1 := step_sound (Q := Q) hT hr (fun j h1 h2 => .inr ⟨i, .head _, h1, h2⟩) hs
      have hi := hlt i (.head _)
      have hsub : ∀ j, frL nx0 ops.size r j → less (frL nx0 ops.size (i :: r)) (nx0 + 8 * i) j := by
        intro j hj
        rcases hj with hj | ⟨q, hq, hq1, hq2⟩
        · exact ⟨.inl hj, by omega⟩
        · refine ⟨.inr ⟨q, .tail _ hq, hq1, hq2⟩, fun hh => ?_⟩
          have : q = i := by omega
          subst this
          exact (List.nodup_cons.1 hn).1 hq
      have ih : ∀ g' a' w', Rel B nt (less (frL nx0 ops.size (i :: r)) (nx0 + 8 * i)) s1 g' a' w' → ((∀ g' a' w', Rel B nt (frL nx0 ops.size []) sf g' a' w' → Q .normal a' w') → wpOps P ops Q r a' w') :=
        fun g' a' w' hr' => text_sound hT r (List.nodup_cons.1 hn).2 (fun j hj => hlt j (.tail _ hj)) (hr'.weak hsub) h
      intro hQ
      rw [wpOps_cons]
      exact h1 _ fun g' a' w' hr' => ih g' a' w' hr' hQ


/-! orders that are drawn -/

def remOf (ops : Array Oper) (listed : Array Bool) : List Nat := (List.range ops.size).filter fun i => !listed.getD i true

theorem befOk_spec (h : befOk ops bef = true) {j : Nat} {o : Oper} (ho : ops[j]? = some o) : (∀ e ∈ o.after, Region.binds .any e = true → e.on < j) ∧
    ∀ i, i < ops.size → (bef.getD j 0).testBit i = true → i < j ∧ ∃ e ∈ o.after, Region.binds .any e = true ∧ (e.on = i ∨ (bef.getD e.on 0).testBit i = true) := by
  have hj : j < ops.size := (Array.getElem?_eq_some_iff.1 ho).1
  unfold befOk at h
  have := List.all_eq_true.1 h j (List.mem_range.2 hj)
  rw [ho] at this
  simp only [Bool.and_eq_true] at this
  obtain ⟨h1, h2⟩ := this
  refine ⟨fun e he hb => ?_, fun i hi hb => ?_⟩
  · have := List.all_eq_true.1 h1 e (by simpa using he)
    simpa [hb, Nat.blt_eq] using this
  · have := List.all_eq_true.1 h2 i (List.mem_range.2 hi)
    rw [hb] at this
    simp only [Bool.not_true, Bool.false_or, Bool.and_eq_true, Nat.blt_eq] at this
    obtain ⟨q1, q2⟩ := this
    obtain ⟨e, he, hq⟩ := List.any_eq_true.1 q2
    simp only [Bool.and_eq_true, Bool.or_eq_true] at hq
    refine ⟨q1, e, by simpa using he, hq.1, ?_⟩
    rcases hq.2 with h | h
    · exact .inl (Nat.eq_of_beq_eq_true h)
    · exact .inr h

theorem drawOk_spec {mx : Bool} (h : drawOk T mx ops bef = true) : (mx || !(Region.departs ops)) = true ∧ befOk ops bef = true ∧ ∀ i j a b, i < j → ops[i]? = some a → ops[j]? = some b → (bef.getD j 0).testBit i = false → commOps T ops a b = true := by
  unfold drawOk at h
  rw [Bool.and_eq_true, Bool.and_eq_true] at h
  obtain ⟨⟨h1, h2⟩, h3⟩ := h
  refine ⟨h1, h2, fun i j a b hij ha hb hbit => ?_⟩
  have hj : j < ops.size := (Array.getElem?_eq_some_iff.1 hb).1
  have := List.all_eq_true.1 (List.all_eq_true.1 h3 j (List.mem_range.2 hj)) i (List.mem_range.2 hij)
  rw [ha, hb, hbit] at this
  simpa using this

/-- What is listed has all listed on which it hangs. -/
def closedL (ops : Array Oper) (bef : Array Nat) (listed : Array Bool) : Prop := ∀ i, i < ops.size → listed.getD i true = true → ∀ k, k < ops.size → (bef.getD i 0).testBit k = true → listed.getD k true = true

theorem mem_rem {listed : Array Bool} {i : Nat} : i ∈ remOf ops listed ↔ i < ops.size ∧ listed.getD i true = false := by
  simp [remOf]

theorem mem_ready {listed : Array Bool} {i : Nat} : i ∈ Region.ready .any ops listed ↔ i < ops.size ∧ listed.getD i true = false ∧ ∃ o, ops[i]? = some o ∧ ∀ e ∈ o.after, Region.binds .any e = true → listed.getD e.on false = true := by
  unfold Region.ready
  simp only [List.mem_filter, List.mem_range, Bool.and_eq_true, Bool.not_eq_true']
  constructor
  · rintro ⟨h1, h2, h3⟩
    refine ⟨h1, h2, ?_⟩
    rw [Array.getElem?_eq_getElem h1] at h3
    refine ⟨ops[i], Array.getElem?_eq_getElem h1, fun e he hb => ?_⟩
    simp only [Option.map_some, Option.getD_some] at h3
    have := Array.all_eq_true'.1 h3 e he
    simpa [hb] using this
  · rintro ⟨h1, h2, o, ho, h3⟩
    refine ⟨h1, h2, ?_⟩
    rw [ho]
    simp only [Option.map_some, Option.getD_some]
    refine Array.all_eq_true'.2 fun e he => ?_
    cases hb : Region.binds .any e with
    | false => rfl
    | true => rw [h3 e he hb]; rfl

theorem getD_tf {listed : Array Bool} {i : Nat} (h : listed.getD i false = true) : listed.getD i true = true := by
  simp only [Array.getD_eq_getD_getElem?] at *
  cases hq : listed[i]? with
  | none => rw [hq] at h; cases h
  | some b => rw [hq] at h; simpa using h

theorem rem_split {listed : Array Bool} (hsz : listed.size = ops.size) {i : Nat} (hi : i ∈ remOf ops listed) : ∃ A C, remOf ops listed = A ++ i :: C ∧ remOf ops (listed.setIfInBounds i true) = A ++ C ∧ (∀ a ∈ A, a < i) ∧ (∀ c ∈ C, i < c) := by
  obtain ⟨hlt, hf⟩ := mem_rem.1 hi
  have hs : List.range ops.size = List.range i ++ i :: (List.range' (i + 1) (ops.size - (i + 1))) := by
    rw [List.range_eq_range', List.range_eq_range']
    have h1 : List.range' 0 ops.size = List.range' 0 i ++ List.range' (0 + i) (ops.size - i) := by
      rw [List.range'_append_1]; congr 1; omega
    rw [h1, Nat.zero_add]
    congr 1
    have : ops.size - i = (ops.size - (i + 1)) + 1 := by omega
    rw [this, List.range'_succ]
  have hset : ∀ k, k ≠ i → (listed.setIfInBounds i true).getD k true = listed.getD k true := by
    intro k hk
    simp [Array.getD_eq_getD_getElem?, Ne.symm hk]
  have hseti : (listed.setIfInBounds i true).getD i true = true := by
    simp [Array.getD_eq_getD_getElem?, hsz, hlt]
  refine ⟨(List.range i).filter fun k => !listed.getD k true, (List.range' (i + 1) (ops.size - (i + 1))).filter fun k => !listed.getD k true, ?_, ?_, ?_, ?_⟩
  · unfold remOf
    rw [hs, List.filter_append, List.filter_cons]
    simp [hf]
  · unfold remOf
    rw [hs, List.filter_append, List.filter_cons]
    simp only [hseti, Bool.not_true, Bool.false_eq_true, if_false]
    congr 1
    · refine List.filter_congr fun k hk => ?_
      rw [hset k (by have := List.mem_range.1 hk; omega)]
    · refine List.filter_congr fun k hk => ?_
      rw [hset k (by have := List.mem_range'_1.1 hk; omega)]
  · intro a ha; exact List.mem_range.1 (List.mem_filter.1 ha).1
  · intro c hc; have := List.mem_range'_1.1 (List.mem_filter.1 hc).1; omega

theorem dst_of_run : ∀ (L : List Nat) (s sf : S), runD P T nt ops bef nx0 true fz L s = some sf → ∀ i ∈ L, ∃ o, ops[i]? = some o ∧ dstOk nt o.dst = true
  | [], _, _, _, i, hi => by cases hi
  | j :: r, s, sf, h, i, hi => by
    simp only [runD] at h
    cases hs : stepD P T nt ops bef nx0 true fz j s with
    | none => rw [hs] at h; cases h
    | some s1 =>
      rw [hs] at h
      rcases List.mem_cons.1 hi with rfl | hi
      · unfold stepD at hs
        cases ho : ops[i]? with
        | none => rw [ho] at hs; cases hs
        | some o =>
          rw [ho] at hs
          simp only at hs
          refine ⟨o, rfl, ?_⟩
          cases hd : dstOk nt o.dst with
          | true => rfl
          | false => rw [hd] at hs; cases hs
      · exact dst_of_run r s1 sf h i hi

theorem any_sound (hT : ∀ f sp, sp ∈ T f → Sound P f sp) {mx : Bool} (hok : drawOk T mx ops bef = true) : ∀ (fuel : Nat) (listed : Array Bool) {s sf : S} {g : Nat → Value} {a : Act} {w : World}, listed.size = ops.size → (remOf ops listed).length ≤ fuel → closedL ops bef listed →
    Rel B nt (frL nx0 ops.size (remOf ops listed)) s g a w → runD P T nt ops bef nx0 true fz (remOf ops listed) s = some sf → (∀ g' a' w', Rel B nt (frL nx0 ops.size []) sf g' a' w' → Q .normal a' w') → wpAny P .any ops Q fuel listed a w := by
  obtain ⟨_, hbef, hcomm⟩ := drawOk_spec hok
  -- where all is listed
  have done : ∀ (listed : Array Bool) {s sf : S} {g : Nat → Value} {a : Act} {w : World}, listed.size = ops.size → remOf ops listed = [] → Rel B nt (frL nx0 ops.size (remOf ops listed)) s g a w → runD P T nt ops bef nx0 true fz (remOf ops listed) s = some sf → (∀ g' a' w', Rel B nt (frL nx0 ops.size []) sf g' a' w' → Q .normal a' w') → Q .normal a w := by
    intro listed s sf g a w _ h0 hr hrun hQ
    rw [h0] at hr hrun
    cases hrun
    exact hQ g a w hr
  -- the first that is left is ready
  have first : ∀ (listed : Array Bool), listed.size = ops.size → Region.ready .any ops listed = [] → remOf ops listed = [] := by
    intro listed hsz h0
    cases hrem : remOf ops listed with
    | nil => rfl
    | cons i r =>
      exfalso
      have hi : i ∈ remOf ops listed := by rw [hrem]; exact .head _
      obtain ⟨A, C, e1, _, hA, _⟩ := rem_split hsz hi
      have hA0 : A = [] := by
        cases A with
        | nil => rfl
        | cons x A =>
          rw [hrem] at e1
          simp only [List.cons_append, List.cons.injEq] at e1
          have := hA x (.head _)
          omega
      obtain ⟨hlt, hf⟩ := mem_rem.1 hi
      have ho := Array.getElem?_eq_getElem hlt
      have hready : i ∈ Region.ready .any ops listed := mem_ready.2 ⟨hlt, hf, _, ho, fun e he hb => by
        have hlt' := (befOk_spec hbef ho).1 e he hb
        cases hc : listed.getD e.on false with
        | true => rfl
        | false =>
          exfalso
          have hm : e.on ∈ remOf ops listed := mem_rem.2 ⟨by omega, by
            simp only [Array.getD_eq_getD_getElem?] at hc ⊢
            rw [Array.getElem?_eq_getElem (by omega)] at hc ⊢
            simpa using hc⟩
          rw [e1, hA0, List.nil_append] at hm
          rcases List.mem_cons.1 hm with h | h
          · omega
          · obtain ⟨A', C', e1', _, hA', hC'⟩ := rem_split hsz hi
            have := hA0
            subst this
            simp only [List.nil_append] at e1
            rw [e1] at e1'
            cases A' with
            | nil => simp only [List.nil_append, List.cons.injEq, true_and] at e1'; subst e1'; have := hC' _ h; omega
            | cons x A' => simp only [List.cons_append, List.cons.injEq] at e1'; have := hA' x (.head _); omega⟩
      rw [h0] at hready
      cases hready
  intro fuel
  induction fuel with
  | zero =>
    intro listed s sf g a w hsz hl _ hr hrun hQ
    have h0 : remOf ops listed = [] := List.eq_nil_of_length_eq_zero (by omega)
    refine ⟨?_, done listed hsz h0 hr hrun hQ⟩
    cases hrd : Region.ready .any ops listed with
    | nil => rfl
    | cons i r =>
      have hi : i ∈ Region.ready .any ops listed := by rw [hrd]; exact .head _
      obtain ⟨h1, h2, _⟩ := mem_ready.1 hi
      have : i ∈ remOf ops listed := mem_rem.2 ⟨h1, h2⟩
      rw [h0] at this; cases this
  | succ fuel ih =>
    intro listed s sf g a w hsz hl hcl hr hrun hQ
    refine ⟨fun h0 => done listed hsz (first listed hsz h0) hr hrun hQ, fun i hi => ?_⟩
    obtain ⟨hlt, hf, o, ho, hpre⟩ := mem_ready.1 hi
    have hir : i ∈ remOf ops listed := mem_rem.2 ⟨hlt, hf⟩
    obtain ⟨A, C, e1, e2, hA, hC⟩ := rem_split hsz hir
    have hdst := dst_of_run _ _ _ hrun
    obtain ⟨o', ho', hdo⟩ := hdst i hir
    rw [ho] at ho'; cases ho'
    -- it hangs on none that is left
    have hbit : ∀ k, k ∈ remOf ops listed → (bef.getD i 0).testBit k = false := by
      intro k hk
      obtain ⟨hkl, hkf⟩ := mem_rem.1 hk
      cases hb : (bef.getD i 0).testBit k with
      | false => rfl
      | true =>
        exfalso
        obtain ⟨_, e, he, hbd, hor⟩ := (befOk_spec hbef ho).2 k hkl hb
        have hle := getD_tf (hpre e he hbd)
        rcases hor with rfl | hor
        · rw [hkf] at hle; cases hle
        · have hlt' := (befOk_spec hbef ho).1 e he hbd
          have := hcl e.on (by omega) hle k hkl hor
          rw [hkf] at this; cases this
    have hbub : runD P T nt ops bef nx0 true fz (A ++ i :: C) s = (stepD P T nt ops bef nx0 true fz i s).bind (runD P T nt ops bef nx0 true fz (A ++ C)) := by
      refine run_bubble A C s fun b hb s' => ?_
      have hbr : b ∈ remOf ops listed := by rw [e1]; exact List.mem_append.2 (.inl hb)
      obtain ⟨ob, hob, hdb⟩ := hdst b hbr
      have hbi := hA b hb
      have hib : (bef.getD b 0).testBit i = false := by
        cases hq : (bef.getD b 0).testBit i with
        | false => rfl
        | true => have := ((befOk_spec hbef hob).2 i hlt hq).1; omega
      exact step_comm (by omega) hob ho hdb hdo (hcomm b i ob o hbi hob ho (hbit b hbr)) hib (hbit b hbr) s'
    rw [e1] at hrun
    rw [hbub] at hrun
    cases hs : stepD P T nt ops bef nx0 true fz i s with
    | none => rw [hs] at hrun; cases hrun
    | some s1 =>
      rw [hs] at hrun
      simp only [Option.bind_some] at hrun
      have h1 := step_sound (Q := Q) hT hr (fun j h1 h2 => .inr ⟨i, hir, h1, h2⟩) hs
      refine h1 _ fun g' a' w' hr' => ?_
      refine ih (listed.setIfInBounds i true) (by simpa using hsz) ?_ ?_ (hr'.weak fun j hj => ?_) (by rw [e2]; exact hrun) hQ
      · rw [e2]; rw [e1] at hl; simp only [List.length_append, List.length_cons] at hl ⊢; omega
      · intro q hq hql k hkl hb
        by_cases hki : k = i
        · subst hki
          simp [Array.getD_eq_getD_getElem?, hsz, hlt]
        · have hset : ∀ k, k ≠ i → (listed.setIfInBounds i true).getD k true = listed.getD k true := by
            intro k hk
            simp [Array.getD_eq_getD_getElem?, Ne.symm hk]
          rw [hset k hki]
          by_cases hqi : q = i
          · subst hqi
            cases hc : listed.getD k true with
            | true => rfl
            | false =>
              have := hbit k (mem_rem.2 ⟨hkl, hc⟩)
              rw [hb] at this; cases this
          · rw [hset q hqi] at hql
            exact hcl q hq hql k hkl hb
      · rw [e2] at hj
        rw [e1]
        rcases hj with hj | ⟨q, hq, hq1, hq2⟩
        · exact ⟨.inl hj, by omega⟩
        · refine ⟨.inr ⟨q, ?_, hq1, hq2⟩, fun hh => ?_⟩
          · rcases List.mem_append.1 hq with h | h
            · exact List.mem_append.2 (.inl h)
            · exact List.mem_append.2 (.inr (.tail _ h))
          · have : q = i := by omega
            subst this
            rcases List.mem_append.1 hq with h | h
            · have := hA q h; omega
            · have := hC q h; omega

theorem Rel.draw (hr : Rel B nt fr s g a w) (n : Nat) : Rel B nt fr s g a { w with drawn := n } :=
  Rel.step (w' := { w with drawn := n }) (s' := s) (g' := g) hr (fun _ => False) rfl (fun _ h => h) (fun _ _ => ⟨rfl, rfl⟩) (fun _ h => h.elim) (fun _ _ h => h.elim) (fun _ _ _ h => h.elim) (fun _ _ _ => rfl) rfl rfl rfl (Nat.le_refl _) (fun _ _ _ h => h.elim) (fun _ h => h.elim) hr.fresh

/-- A region. -/
theorem region_sound (hT : ∀ f sp, sp ∈ T f → Sound P f sp) {id : Nat} {s : S} {g : Nat → Value} {a : Act} {w : World} {k : S → Option R} {r : R} {L : List Nat} (hr : Rel B nt (fun j => s.nx ≤ j) s g a w)
    (h : (bif !dr || drawOk T (P.follows .mixedOrders) ops (Region.before ops) then regK P T nt ops (bif dr then Region.before ops else #[]) s.nx dr (fzOf s.nx L) (List.range ops.size) { s with dt := L ++ s.dt } k else none) = some r) :
    ∃ s', k s' = some r ∧ SExt (wrOps ops.toList) s.nx s s' ∧ ((∀ g' a' w', Rel B nt (fun j => s'.nx ≤ j) s' g' a' w' → Q .normal a' w') → (Code.region id ops dr).wp P Q a w) := by
  have h0 : frL s.nx ops.size (List.range ops.size) = fun j => s.nx ≤ j := by
    funext j
    refine propext ⟨fun hj => ?_, fun hj => ?_⟩
    · rcases hj with hj | ⟨i, _, hj, _⟩ <;> omega
    · by_cases hlt : s.nx + 8 * ops.size ≤ j
      · exact .inl hlt
      · exact .inr ⟨(j - s.nx) / 8, List.mem_range.2 (by omega), by omega, by omega⟩
  have h1 : ∀ sf : S, frL s.nx ops.size [] = fun j => (s.nx + 8 * ops.size) ≤ j := fun sf => by
    funext j
    refine propext ⟨fun hj => ?_, fun hj => .inl hj⟩
    rcases hj with hj | ⟨i, hi, _⟩
    · exact hj
    · cases hi
  have fin : ∀ sf : S, ∀ g' a' w', Rel B nt (frL s.nx ops.size []) sf g' a' w' → Rel B nt (fun j => ({ sf with nx := s.nx + 8 * ops.size } : S).nx ≤ j) { sf with nx := s.nx + 8 * ops.size } g' a' w' := by
    intro sf g' a' w' hrel
    rw [h1 sf] at hrel
    exact ⟨hrel.slots, hrel.sold, hrel.objs, hrel.kold, hrel.disj, hrel.base, hrel.frm, hrel.fresh, hrel.size, hrel.dfr, hrel.kp⟩
  have ext : ∀ {bef : Array Nat} {sf : S}, runD P T nt ops bef s.nx dr (fzOf s.nx L) (List.range ops.size) { s with dt := L ++ s.dt } = some sf → SExt (wrOps ops.toList) s.nx s { sf with nx := s.nx + 8 * ops.size } := by
    intro bef sf hrun
    obtain ⟨x1, x2, new, x3, x4⟩ := run_ext _ _ _ hrun
    refine ⟨x1, by show s.nx ≤ s.nx + 8 * ops.size; omega, new ++ L, by show sf.dt = _; rw [x3, List.append_assoc], fun id hid hn => ?_⟩
    simp only [List.mem_append, not_or] at hn
    refine x4 id hid hn.1 (.inl ?_)
    unfold fzOf
    have e1 : Nat.ble s.nx id = false := by
      cases hq : Nat.ble s.nx id
      · rfl
      · have := Nat.le_of_ble_eq_true hq; omega
    rw [e1, Bool.false_or]
    simpa using hn.2
  have hr1 : Rel B nt (fun j => s.nx ≤ j) { s with dt := L ++ s.dt } g a w := hr.dt_ _
  rw [← h0] at hr1
  cases dr with
  | false =>
    simp only [Bool.not_false, Bool.true_or, cond_true, cond_false] at h
    rw [regK_eq] at h
    cases hrun : runD P T nt ops #[] s.nx false (fzOf s.nx L) (List.range ops.size) { s with dt := L ++ s.dt } with
    | none => rw [hrun] at h; cases h
    | some sf =>
      rw [hrun] at h
      exact ⟨_, h, ext hrun, fun hQ => wp_region (text_sound (Q := Q) hT _ List.nodup_range (fun i hi => List.mem_range.1 hi) hr1 hrun fun g' a' w' hrel => hQ g' a' w' (fin sf g' a' w' hrel))⟩
  | true =>
    simp only [Bool.not_true, Bool.false_or, cond_true] at h
    cases hok : drawOk T (P.follows .mixedOrders) ops (Region.before ops) with
    | false => rw [hok] at h; cases h
    | true =>
      rw [hok] at h
      simp only [cond_true] at h
      rw [regK_eq] at h
      cases hrun : runD P T nt ops (Region.before ops) s.nx true (fzOf s.nx L) (List.range ops.size) { s with dt := L ++ s.dt } with
      | none => rw [hrun] at h; cases h
      | some sf =>
        rw [hrun] at h
        refine ⟨_, h, ext hrun, fun hQ => wp_region_draw fun t => ?_⟩
        have hdep := (drawOk_spec hok).1
        simp only [Region.schedule, hdep, if_true]
        have hrem : remOf ops (Array.replicate ops.size false) = List.range ops.size := by
          unfold remOf
          rw [List.filter_eq_self]
          intro i hi
          simp [Array.getD_eq_getD_getElem?, List.mem_range.1 hi]
        refine wpAny_sound ops.size t _ a _ (any_sound hT hok ops.size (Array.replicate ops.size false) (by simp) (by rw [hrem]; simp) ?_ (s := { s with dt := L ++ s.dt }) (sf := sf) (g := g) ?_ (by rw [hrem]; exact hrun) fun g' a' w' hrel => hQ g' a' w' (fin sf g' a' w' hrel))
        · intro i hi hl
          exfalso
          simp [Array.getD_eq_getD_getElem?, hi] at hl
        · rw [hrem]
          exact hr1.draw _

end Go.Proofs.Fr

/- A state that crosses a border: what it is packed as, and what it is behind it. -/
namespace Go.Proofs.Fr
open Go Go.RowKit
variable {R : Type} {P : Program} {T : Nat → List Sp} {nt : Nat} {B : Bs} {s s' : S} {g g' : Nat → Value} {a : Act} {w : World} {H H' : Nat → Ob} {ok ok' : Nat → Prop}

theorem objT_cons (x : Tg × K) (pk : PK) : objT ((x :: pk).map (·.1)) = (match x.1 with | .obj id => [id] | .slot _ => []) ++ objT (pk.map (·.1)) := by
  obtain ⟨tg, k⟩ := x
  cases tg <;> rfl

/-- The values of what is packed. -/
theorem pack_vals {fr : Nat → Prop} (hr : Rel B nt fr s g a w) : ∀ {pk : PK} {x : PK.den pk} {fro own : List Nat}, pkA s.H (pk.map (·.2)) (pk.map (tgD s)) = some (x, fro, own) →
    (∀ (j : Nat) id k, pk[j]? = some (.obj id, k) → k.isOb = true) →
    ∃ vs : List Value, All2 (DR g s.H w (okB B g s.H w)) (pk.map (tgD s)) vs ∧ (∀ (j : Nat) t k, pk[j]? = some (.slot t, k) → vs[j]? = some (a.tmps.getD t undef)) ∧ (∀ (j : Nat) id k, pk[j]? = some (.obj id, k) → vs[j]? = some (g id) ∧ fits k (s.H id)) ∧ (objT (pk.map (·.1))).Sublist own
  | [], x, fro, own, h, _ => ⟨[], trivial, fun j t k hj => by simp at hj, fun j id k hj => by simp at hj, List.nil_sublist _⟩
  | (.slot t, k) :: pk, x, fro, own, h, hk => by
    change pkA s.H (k :: pk.map (·.2)) (tgD s (.slot t, k) :: pk.map (tgD s)) = some (x, fro, own) at h
    simp only [pkA] at h
    split at h
    · rename_i d ds0 hd0
      obtain ⟨hd, hds0⟩ := List.cons.inj hd0
      subst hds0
      split at h
      · split at h
        · rename_i x1 f1 l1 h1
          split at h
          · rename_i y f2 l2 h2
            cases h
            obtain ⟨vs, v1, v2, v3, v4⟩ := pack_vals hr h2 (fun j id k' hj => hk (j + 1) id k' (by simpa using hj))
            refine ⟨a.tmps.getD t undef :: vs, ⟨hr.slots t, v1⟩, fun j t' k' hj => ?_, fun j id k' hj => ?_, ?_⟩
            · cases j with
              | zero => simp at hj; obtain ⟨rfl, rfl⟩ := hj; rfl
              | succ j => simpa using v2 j t' k' (by simpa using hj)
            · cases j with
              | zero => simp at hj
              | succ j => simpa using v3 j id k' (by simpa using hj)
            · rw [List.map_cons, objT_slot]
              exact v4.trans (List.sublist_append_right _ _)
          · cases h
        · cases h
      · cases h
    · cases h
  | (.obj id, k) :: pk, x, fro, own, h, hk => by
    have hob := hk 0 id k rfl
    change pkA s.H (k :: pk.map (·.2)) (tgD s (.obj id, k) :: pk.map (tgD s)) = some (x, fro, own) at h
    simp only [pkA] at h
    split at h
    · rename_i d ds0 hd0
      obtain ⟨hd, hds0⟩ := List.cons.inj hd0
      subst hds0
      split at h
      · split at h
        · rename_i x1 f1 l1 h1
          split at h
          · rename_i y f2 l2 h2
            cases h
            obtain ⟨vs, v1, v2, v3, v4⟩ := pack_vals hr h2 (fun j id k' hj => hk (j + 1) id k' (by simpa using hj))
            have key : DR g s.H w (okB B g s.H w) (tgD s (.obj id, k)) (g id) ∧ fits k (s.H id) ∧ ∃ l', l1 = id :: l' := by
              have ho := hr.objs id
              cases k with
              | own E t =>
                have : d = .one (.own id) := by have e : tgD s (.obj id, .own E t) = .v d := hd; simp only [tgD] at e; cases e; rfl
                subst this
                simp only [D0.ls, pkC] at h1
                split at h1
                · rename_i E' t' xs hH
                  split at h1
                  · rename_i ht; subst ht
                    split at h1
                    · rename_i hE; subst hE
                      cases h1
                      rw [hH] at ho
                      obtain ⟨A, c, hv, _⟩ := RowO.slice_ ho
                      exact ⟨⟨by rw [hv]; rfl, fun _ _ _ => rfl⟩, ⟨xs, hH⟩, [], rfl⟩
                    · cases h1
                  · cases h1
                · cases h1
              | bx T c =>
                have : d = .one (.ptr id 0) := by have e : tgD s (.obj id, .bx T c) = .v d := hd; simp only [tgD] at e; cases e; rfl
                subst this
                simp only [D0.ls, pkC] at h1
                split at h1
                · rename_i T' ls hH
                  split at h1
                  · rename_i hT; subst hT
                    split at h1
                    · cases h1
                      rw [hH] at ho
                      obtain ⟨kb, arr, hg, _⟩ := ho
                      exact ⟨⟨⟨_, hg⟩, fun q _ => ⟨kb, hg, hg⟩⟩, ⟨ls, hH⟩, _, rfl⟩
                    · cases h1
                  · cases h1
                · cases h1
              | _ => cases hob
            obtain ⟨k1, k2, l', k3⟩ := key
            refine ⟨g id :: vs, ⟨k1, v1⟩, fun j t' k' hj => ?_, fun j id' k' hj => ?_, ?_⟩
            · cases j with
              | zero => simp at hj
              | succ j => simpa using v2 j t' k' (by simpa using hj)
            · cases j with
              | zero => simp at hj; obtain ⟨rfl, rfl⟩ := hj; exact ⟨rfl, k2⟩
              | succ j => simpa using v3 j id' k' (by simpa using hj)
            · rw [List.map_cons, objT_obj, k3, List.cons_append]
              exact List.Sublist.cons_cons _ (v4.trans (List.sublist_append_right _ _))
          · cases h
        · cases h
      · cases h
    · cases h

theorem chk_spec {pk : PK} {mv fro own : List Nat} (h : chk s s' pk mv fro own = true) {new : List Nat} (hd : s'.dt = new ++ s.dt) : (∀ id ∈ new, s.nx ≤ id ∨ id ∈ mv) ∧ (∀ id ∈ fro, s.nx ≤ id ∨ id ∈ mv) ∧ (∀ id ∈ own, s.nx ≤ id ∨ id ∈ mv) ∧ lentOk fro own = true ∧
    (∀ (j : Nat) id k, pk[j]? = some (.obj id, k) → id < s.nx ∧ k.isOb = true) := by
  unfold chk at h
  simp only [Bool.and_eq_true] at h
  obtain ⟨⟨h1, h2⟩, h3⟩ := h
  have key : ∀ id ∈ new ++ fro ++ own, s.nx ≤ id ∨ id ∈ mv := by
    have htk : s'.dt.take (s'.dt.length - s.dt.length) = new := by
      rw [hd, List.length_append, Nat.add_sub_cancel, List.take_left]
    rw [htk] at h1
    intro id hid
    have := List.all_eq_true.1 h1 id hid
    simp only [Bool.or_eq_true] at this
    rcases this with h | h
    · exact .inl (Nat.le_of_ble_eq_true h)
    · exact .inr (by simpa using h)
  refine ⟨fun id h => key id (by simp [h]), fun id h => key id (by simp [h]), fun id h => key id (by simp [h]), h2, fun j id k hj => ?_⟩
  have := List.all_eq_true.1 h3 _ (List.mem_of_getElem? hj)
  simpa [Nat.blt_eq] using this

theorem mem_handles {pk : PK} {j : Nat} {id : Nat} {k : K} (h : pk[j]? = some (.obj id, k)) : id ∈ handles s pk := by
  unfold handles
  refine List.mem_flatMap.2 ⟨_, List.mem_of_getElem? h, ?_⟩
  have : (tgD s (.obj id, k)).ids = [id] := by unfold tgD; cases k <;> rfl
  rw [this]
  simp [reachI]

theorem objT_get {pk : PK} {id : Nat} (h : id ∈ objT (pk.map (·.1))) : ∃ (j : Nat) (k : K), pk[j]? = some (.obj id, k) := by
  unfold objT at h
  obtain ⟨tg, htg, e⟩ := List.mem_filterMap.1 h
  obtain ⟨⟨tg', k⟩, hm, rfl⟩ := List.mem_map.1 htg
  obtain ⟨j, hj⟩ := List.getElem?_of_mem hm
  cases tg' with
  | slot t => cases e
  | obj q => cases e; exact ⟨j, k, hj⟩

/-- Across a border. -/
theorem repack (hr0 : ∃ g0 a0 w0, Rel B nt (fun j => s.nx ≤ j) s g0 a0 w0) (hr : Rel B nt (fun j => s'.nx ≤ j) s' g a w) {wr : Nat → Bool} (hx : SExt wr s.nx s s') {pk : PK} {x : PK.den pk} {fro own : List Nat}
    (hp : pack s' pk = some (x, fro, own)) (hc : chk s s' pk (handles s pk) fro own = true) : ∃ g', Rel B nt (fun j => (unpack pk wr s x).nx ≤ j) (unpack pk wr s x) g' a w := by
  obtain ⟨g0, a0, w0, hr0⟩ := hr0
  obtain ⟨xe, xn, new, xd, xH⟩ := hx
  obtain ⟨c1, c2, c3, c4, c5⟩ := chk_spec hc xd
  obtain ⟨hon, hof⟩ := lentOk_spec c4
  obtain ⟨i1, i2⟩ := pkA_ids (Hv := s'.H) (fun _ => .inr rfl) hr.kold hp (fun d hd j hj => by
    obtain ⟨⟨tg, k⟩, hm, rfl⟩ := List.mem_map.1 hd
    cases tg with
    | slot t => exact hr.sold t j hj
    | obj id =>
      obtain ⟨q, hq⟩ := List.getElem?_of_mem hm
      have e : (tgD s' (.obj id, k)).ids = [id] := by unfold tgD; cases k <;> rfl
      rw [e] at hj
      have : j = id := by simpa using hj
      subst this
      have := (c5 q j k hq).1
      omega)
  obtain ⟨hrF, okF1, okF2⟩ := hr.freeze (ids := fro) (fun id h => (i1 id h).1) (fun id h => (i1 id h).2) s'.dt
  obtain ⟨vs, v1, v2, v3, v4⟩ := pack_vals hr hp (fun j id k hj => (c5 j id k hj).2)
  let mv := handles s pk
  have hAR : AR w (okB B g (frz s'.H fro) w) (pk.map (·.2)) x vs (own.filterMap (owned g s'.H)) := pkA_R (Hv := s'.H) (fun _ => .inr rfl) hr.objs okF1 hp v1 okF2
  have hfl : ∀ id ∈ own, frz s'.H fro id = s'.H id := fun id h => (frz_at fro s'.H id).2 (hof id h)
  have hbn : ∀ {l : List Nat}, l.Nodup → (l.filterMap (owned g s'.H)).Nodup := by
    intro l
    induction l with
    | nil => intro _; exact List.nodup_nil
    | cons i l ih =>
      intro hn
      obtain ⟨n1, n2⟩ := List.nodup_cons.1 hn
      rw [List.filterMap_cons]
      cases e : owned g s'.H i with
      | none => exact ih n2
      | some b =>
        refine List.nodup_cons.2 ⟨fun hm => ?_, ih n2⟩
        obtain ⟨j, hj, e'⟩ := List.mem_filterMap.1 hm
        exact n1 ((hr.disj i j b e e') ▸ hj)
  have hbs : ∀ b ∈ own.filterMap (owned g s'.H), ∃ id ∈ own, owned g (frz s'.H fro) id = some b := by
    intro b hb'
    obtain ⟨id, hid, e⟩ := List.mem_filterMap.1 hb'
    exact ⟨id, hid, by simpa only [owned, hfl id hid] using e⟩
  have hobj : ∀ id ∈ objT (pk.map (·.1)), id < s.nx ∧ id ∈ mv := by
    intro id hid
    obtain ⟨j, k, hj⟩ := objT_get hid
    exact ⟨(c5 j id k hj).1, mem_handles hj⟩
  have getpk : ∀ (j : Nat) tg k, (pk.map (·.1))[j]? = some tg → (pk.map (·.2))[j]? = some k → pk[j]? = some (tg, k) := by
    intro j tg k h1 h2
    simp only [List.getElem?_map] at h1 h2
    cases e : pk[j]? with
    | none => rw [e] at h1; simp at h1
    | some p => rw [e] at h1 h2; simp at h1 h2; rw [← h1, ← h2]
  have getpk1 : ∀ (j : Nat) tg, (pk.map (·.1))[j]? = some tg → ∃ k, pk[j]? = some (tg, k) := by
    intro j tg h1
    simp only [List.getElem?_map] at h1
    cases e : pk[j]? with
    | none => rw [e] at h1; simp at h1
    | some p => rw [e] at h1; simp at h1; exact ⟨p.2, by rw [← h1]⟩
  obtain ⟨gs, hgl, hfill⟩ := fillS_R (tgs := pk.map (·.1)) (ks := pk.map (·.2)) (x := x) (fun i => bif wr i then .one .undef else s.e i) (goneAll s.H mv) s.nx hAR (by simp) (fun id hid => .inl (hobj id hid).1) (hon.sublist v4)
    (fun j id k h1 h2 => (c5 j id k (getpk j _ k h1 h2)).2)
  let N := nobP (pk.map (·.1)) (pk.map (·.2))
  let G : Nat → Value := fun id => if s.nx ≤ id ∧ id < s.nx + N then gs.getD (id - s.nx) undef else g id
  have hGold : ∀ id, ¬ (s.nx ≤ id ∧ id < s.nx + N) → G id = g id := fun id h => if_neg h
  have hF := hfill G (fun t => a.tmps.getD t undef) (fun i v hi => by
      have hlt := (List.getElem?_eq_some_iff.1 hi).1
      show (if s.nx ≤ s.nx + i ∧ s.nx + i < s.nx + N then _ else _) = v
      rw [if_pos ⟨by omega, by show s.nx + i < s.nx + nobP _ _; omega⟩, List.getD_eq_getElem?_getD, Nat.add_sub_cancel_left, hi]; rfl)
    (fun j t v h1 h2 => by
      obtain ⟨k, hk⟩ := getpk1 j _ h1
      have := v2 j t k hk
      rw [h2] at this; cases this; rfl)
    (fun j id v h1 h2 => by
      obtain ⟨k, hk⟩ := getpk1 j _ h1
      have h3 := (v3 j id k hk).1
      rw [h2] at h3; cases h3
      exact hGold id (by have := (c5 j id k hk).1; omega))
  -- the state behind the border
  let F := fillS (fun i => bif wr i then .one .undef else s.e i) (goneAll s.H mv) s.nx (pk.map (·.1)) (pk.map (·.2)) x
  have hF' : Filled G (fun t => a.tmps.getD t undef) w (okB B g (frz s'.H fro) w) (fun i => bif wr i then .one .undef else s.e i) s.nx (pk.map (·.1)) (pk.map (·.2)) (own.filterMap (owned g s'.H)) F := hF
  have htch : ∀ id, tch (pk.map (·.1)) (pk.map (·.2)) s.nx id ↔ ((s.nx ≤ id ∧ id < s.nx + N) ∨ id ∈ objT (pk.map (·.1))) := fun id => Iff.rfl
  have hkeep : ∀ id, ¬ (s.nx ≤ id ∧ id < s.nx + N) → id ∉ objT (pk.map (·.1)) → F.2 id = goneAll s.H mv id := fun id h1 h2 => fill_keep _ _ _ _ (by have : N = nobP (pk.map (·.1)) (pk.map (·.2)) := rfl; omega) h2
  have hgone : ∀ id, (s.nx ≤ id ∨ id ∈ mv) → goneAll s.H mv id = .gone := by
    intro id h
    by_cases hm : id ∈ mv
    · exact (goneAll_at mv s.H id).1 hm
    · rw [(goneAll_at mv s.H id).2 hm]; exact hr0.fresh id (h.resolve_right hm)
  have hsame : ∀ id, id < s.nx → id ∉ mv → F.2 id = s.H id ∧ frz s'.H fro id = s.H id := by
    intro id h1 h2
    refine ⟨(hkeep id (by omega) (fun h => h2 (hobj id h).2)).trans ((goneAll_at mv s.H id).2 h2), ?_⟩
    rw [(frz_at fro s'.H id).2 (fun h => by rcases c2 id h with h3 | h3; omega; exact h2 h3)]
    exact xH id h1 fun hn => by rcases c1 id hn with h3 | h3; omega; exact h2 h3
  let tc : Nat → Prop := fun id => s.nx ≤ id ∨ id ∈ mv
  have hown : ∀ id k, tc id → owned G F.2 id = some k → tch (pk.map (·.1)) (pk.map (·.2)) s.nx id ∧ k ∈ own.filterMap (owned g s'.H) := by
    intro id k ht ho
    by_cases hf : tch (pk.map (·.1)) (pk.map (·.2)) s.nx id
    · exact ⟨hf, hF'.own id k hf ho⟩
    · exfalso
      rw [htch] at hf
      simp only [not_or] at hf
      rw [owned_eq, hkeep id hf.1 hf.2, hgone id ht] at ho
      cases ho
  have hotc : ∀ id ∈ own, tc id := fun id h => c3 id h
  have hokn : ∀ k, okB B g (frz s'.H fro) w k → okB B G F.2 w k := by
    intro k hk
    refine ⟨hk.1, fun i hi => ?_, hk.2.2⟩
    by_cases ht : tc i
    · obtain ⟨id, _, e⟩ := hbs k (hown i k ht hi).2
      exact hk.2.1 id e
    · have h1 : i < s.nx := by by_cases h : i < s.nx; exact h; exact absurd (.inl (by omega)) ht
      have h2 : i ∉ mv := fun h => ht (.inr h)
      obtain ⟨e1, e2⟩ := hsame i h1 h2
      refine hk.2.1 i ?_
      rw [owned_eq, e2]
      rw [owned_eq, e1, hGold i (by omega)] at hi
      exact hi
  refine ⟨G, ?_⟩
  show Rel B nt (fun j => s.nx + N ≤ j) (unpack pk wr s x) G a w
  have hsl : ∀ t, F.1 t = (bif wr t then .one .undef else s.e t) ∨ (DR G F.2 w (okB B g (frz s'.H fro) w) (F.1 t) (a.tmps.getD t undef) ∧ ∀ j ∈ (F.1 t).ids, s.nx ≤ j ∧ j < s.nx + N) := fun t => by
    rcases hF'.slot t with ⟨h, _⟩ | h
    · exact .inl h
    · exact .inr h
  refine Rel.gen (s' := unpack pk wr s x) hrF tc (fun id => id < s.nx) (fun id ht => ?_) (fun id hid => ?_) (fun id ht j hj => ?_) (fun id k ht ho => ?_) (fun i j k hi hj hik hjk => ?_) (fun _ _ _ => rfl) rfl rfl rfl (Nat.le_refl _) (fun _ t => ?_) (fun t id hid hf => ?_) (fun _ id ht => ?_) (fun id j hj hf => ?_) (fun id hf => ?_) (fun id hid => ?_) hr.size hr.dfr
  · have h1 : id < s.nx := by by_cases h : id < s.nx; exact h; exact absurd (.inl (by omega)) ht
    have h2 : id ∉ mv := fun h => ht (.inr h)
    obtain ⟨e1, e2⟩ := hsame id h1 h2
    exact ⟨e1.trans e2.symm, hGold id (by omega)⟩
  · have hG := hGold id (by omega)
    by_cases ho : id ∈ objT (pk.map (·.1))
    · obtain ⟨j, k, hj⟩ := objT_get ho
      have h3 := (v3 j id k hj).2
      have h4 := hF'.fit j id k (by rw [List.getElem?_map, hj]; rfl) (by rw [List.getElem?_map, hj]; rfl)
      right
      refine ⟨?_, hG⟩
      have hio : id ∈ own := v4.subset ho
      show shO (F.2 id) = shO (frz s'.H fro id)
      rw [hfl id hio]
      exact fits_sh h3 h4 hG (hr.objs id) (hF'.ob id ((htch id).2 (.inr ho))).1
    · by_cases hm : id ∈ mv
      · left
        show shO (F.2 id) = none
        rw [hkeep id (by omega) ho, hgone id (.inr hm)]; rfl
      · obtain ⟨e1, e2⟩ := hsame id hid hm
        right
        exact ⟨by show shO (F.2 id) = shO (frz s'.H fro id); rw [e1, e2], hG⟩
  · have h1 : id < s.nx := by by_cases h : id < s.nx; exact h; exact absurd (.inl (by omega)) ht
    have h2 : id ∉ mv := fun h => ht (.inr h)
    have hj' : j ∈ (frz s'.H fro id).kids := hj
    rw [(hsame id h1 h2).2] at hj'
    have := hr0.kold id j hj'
    omega
  · obtain ⟨j, hj, e⟩ := hbs k (hown id k ht ho).2
    exact .inr ⟨j, hotc j hj, e⟩
  · exact hF'.inj (hbn hon) i j k (hown i k hi hik).1 (hown j k hj hjk).1 hik hjk
  · rcases hsl t with h | ⟨h1, h2⟩
    · cases hw : wr t with
      | true =>
        right
        show DR G F.2 w _ (F.1 t) _
        rw [h, hw]; exact trivial
      | false =>
        left
        rw [hw] at h
        refine ⟨?_, rfl, fun id hid => ?_⟩
        · show F.1 t = s'.e t
          rw [h, xe t hw]; rfl
        · have hid' : id ∈ (s'.e t).ids := hid
          rw [xe t hw] at hid'
          have := hr0.sold t id hid'
          omega
    · right
      exact DR.mono (fun k hk => ⟨hokn k hk, rfl⟩) (fun _ _ => .inr ⟨rfl, rfl⟩) h1
  · have hid' : id ∈ (F.1 t).ids := hid
    rcases hsl t with h | ⟨h1, h2⟩
    · rw [h] at hid'
      cases hw : wr t with
      | true => rw [hw] at hid'; simp [D.ids, D0.ids, D0.ls, L.ids] at hid'
      | false => rw [hw] at hid'; have := hr0.sold t id hid'; omega
    · have := h2 id hid'; omega
  · show OB _ _ _ _ id (F.2 id)
    by_cases h1 : tch (pk.map (·.1)) (pk.map (·.2)) s.nx id
    · exact OB.mono (fun k hk => ⟨hokn k hk, rfl⟩) rfl rfl (fun _ _ => rfl) (fun _ _ => .inr ⟨rfl, rfl⟩) (hF'.ob id h1).1
    · rw [htch] at h1
      simp only [not_or] at h1
      rw [hkeep id h1.1 h1.2, hgone id ht]; trivial
  · have hj' : j ∈ (F.2 id).kids := hj
    by_cases h1 : tch (pk.map (·.1)) (pk.map (·.2)) s.nx id
    · have := (hF'.ob id h1).2 j hj'
      have e : N = nobP (pk.map (·.1)) (pk.map (·.2)) := rfl
      omega
    · rw [htch] at h1
      simp only [not_or] at h1
      rw [hkeep id h1.1 h1.2] at hj'
      by_cases ht : s.nx ≤ id ∨ id ∈ mv
      · rw [hgone id ht] at hj'; cases hj'
      · simp only [not_or] at ht
        rw [(goneAll_at mv s.H id).2 ht.2] at hj'
        have := hr0.kold id j hj'
        omega
  · show F.2 id = .gone
    rw [hkeep id (by omega) (fun h => by have := (hobj id h).1; omega)]
    exact hgone id (.inl (by omega))
  · have := (hr0.kp id hid).1
    exact ⟨by omega, by omega⟩

/-- What changes across a border. -/
theorem unpack_ext {pk : PK} {wr wr' : Nat → Bool} {x : PK.den pk} (hw : ∀ t, wr' t = false → wr t = false ∧ inPk (some pk) t = false) : SExt wr' s.nx s (unpack pk wr s x) := by
  refine ⟨fun t ht => ?_, Nat.le_add_right _ _, handles s pk, rfl, fun id hid hn => ?_⟩
  · obtain ⟨h1, h2⟩ := hw t ht
    have h3 : Tg.slot t ∉ pk.map (·.1) := by
      intro hm
      obtain ⟨p, hp, e⟩ := List.mem_map.1 hm
      have : inPk (some pk) t = true := List.any_eq_true.2 ⟨p, hp, by rw [e]; simp⟩
      rw [h2] at this; cases this
    refine (fill_slot (x := x) _ _ _ t h3).trans ?_
    show (bif wr t then (D.one .undef) else s.e t) = s.e t
    rw [h1]; rfl
  · refine (fill_keep (x := x) _ _ _ _ (.inl hid) (fun h => ?_)).trans ((goneAll_at (handles s pk) s.H id).2 hn)
    obtain ⟨j, k, hj⟩ := objT_get h
    exact hn (mem_handles hj)

end Go.Proofs.Fr

/- The ways through a body; the function as a whole. -/
namespace Go.Proofs.Fr
open Go Go.RowKit
variable {R : Type} {P : Program} {T : Nat → List Sp} {nt : Nat} {ann : Nat → Option PK} {B : Bs} {s s' : S} {g g' : Nat → Value} {a : Act} {w : World} {H H' : Nat → Ob} {ok ok' : Nat → Prop} {Q : Exit → Act → World → Prop}

def toExit : Ex → Exit
  | .normal => .normal
  | .exit id => .exit id
  | .ret => .ret
  | .goto l => .goto l

abbrev RelS (B : Bs) (nt : Nat) (s : S) (g : Nat → Value) (a : Act) (w : World) : Prop := Rel B nt (fun j => s.nx ≤ j) s g a w

def KOk (B : Bs) (nt : Nat) (wr : Nat → Bool) (s : S) (k : Ex → S → Option R) (r : R) (Q : Exit → Act → World → Prop) : Prop :=
  ∀ ex s' g' a' w', k ex s' = some r → SExt wr s.nx s s' → RelS B nt s' g' a' w' → Q (toExit ex) a' w'

theorem packK_some {pk : PK} {k : PK.den pk → Option R} {r : R} (h : packK pk s s' k = some r) : ∃ x fro own, pack s' pk = some (x, fro, own) ∧ chk s s' pk (handles s pk) fro own = true ∧ k x = some r := by
  unfold packK at h
  cases hp : pack s' pk with
  | none => rw [hp] at h; cases h
  | some q =>
    obtain ⟨x, fro, own⟩ := q
    rw [hp] at h
    simp only at h
    cases hc : chk s s' pk (handles s pk) fro own with
    | false => rw [hc] at h; cases h
    | true => rw [hc] at h; exact ⟨x, fro, own, rfl, hc, h⟩

theorem joinK_sound {pk? : Option PK} {wr : Nat → Bool} (hpk : ∀ t, wr t = false → inPk pk? t = false) {k : Ex → S → Option R} {r : R} {m : (Ex → S → Option R) → Option R} (hr0 : RelS B nt s g a w) (h : joinK pk? wr s k m = some r) (hk : KOk B nt wr s k r Q) :
    ∃ k', m k' = some r ∧ KOk B nt wr s k' r Q := by
  cases pk? with
  | none => exact ⟨k, h, hk⟩
  | some pk =>
    refine ⟨_, h, fun ex s' g' a' w' hx hext hrel => ?_⟩
    cases ex with
    | normal =>
      obtain ⟨x, fro, own, hp, hc, hj⟩ := packK_some (R := R) hx
      obtain ⟨g'', hrel'⟩ := repack ⟨g, a, w, hr0⟩ hrel hext hp hc
      exact hk .normal _ g'' a' w' hj (unpack_ext fun t ht => ⟨ht, hpk t ht⟩) hrel'
    | exit id => exact hk (.exit id) s' g' a' w' hx hext hrel
    | ret => exact hk .ret s' g' a' w' hx hext hrel
    | goto l => exact hk (.goto l) s' g' a' w' hx hext hrel

theorem SExt.wide {wr wr' : Nat → Bool} {lim : Nat} (h : SExt wr lim s s') (hw : ∀ t, wr' t = false → wr t = false) : SExt wr' lim s s' := ⟨fun t ht => h.1 t (hw t ht), h.2⟩

def wpM (P : Program) (Q : Exit → Act → World → Prop) (m : Option Nat) (c : Code) (a : Act) (w : World) : Prop :=
  match m with
  | none => c.wp P Q a w
  | some l => ∃ rest, findLabel c l = some rest ∧ rest.wp P Q a w

theorem label_find : ∀ {c : Code} {l : Nat}, labelIn c = some l → ∃ rest, findLabel c l = some rest
  | .seq x y, l, h => by
    simp only [labelIn] at h
    cases hx : labelIn x with
    | some l' =>
      rw [hx] at h
      simp at h
      subst h
      obtain ⟨rest, hr⟩ := label_find hx
      exact ⟨.seq rest y, by simp only [findLabel, hr]⟩
    | none =>
      rw [hx] at h
      simp at h
      obtain ⟨rest, hr⟩ := label_find h
      cases hf : findLabel x l with
      | some q => exact ⟨.seq q y, by simp only [findLabel, hf]⟩
      | none => exact ⟨rest, by simp only [findLabel, hf]; exact hr⟩
  | .label l', l, h => by
    simp only [labelIn, Option.some.injEq] at h
    subst h
    exact ⟨.skip, by simp [findLabel]⟩
  | .skip, _, h => by cases h
  | .region .., _, h => by cases h
  | .cond .., _, h => by cases h
  | .block .., _, h => by cases h
  | .loop .., _, h => by cases h
  | .rangeFunc .., _, h => by cases h
  | .exit .., _, h => by cases h
  | .scope .., _, h => by cases h
  | .goto .., _, h => by cases h
  | .ret, _, h => by cases h
  | .refuse .., _, h => by cases h

theorem least {p : Nat → Prop} (h : ∃ n, p n) : ∃ n, p n ∧ ∀ m, p m → n ≤ m := by
  obtain ⟨n, hn⟩ := h
  induction n using Nat.strongRecOn with
  | _ n ih =>
    by_cases hlt : ∃ m, m < n ∧ p m
    · obtain ⟨m, hm, hp⟩ := hlt
      exact ih m hm hp
    · exact ⟨n, hn, fun m hm => Nat.le_of_not_lt fun h => hlt ⟨m, h, hm⟩⟩

theorem ev_sound (hT : ∀ f sp, sp ∈ T f → Sound P f sp) : ∀ (m : Option Nat) (c : Code) (p : Nat) {s : S} {g : Nat → Value} {a : Act} {w : World} (k : Ex → S → Option R) (r : R) (Q : Exit → Act → World → Prop),
    RelS B nt s g a w → evC P T nt ann m c p s k = some r → KOk B nt (wrC ann c p) s k r Q → wpM P Q m c a w
  | none, .skip, p, s, g, a, w, k, r, Q, hr, h, hk => wp_skip (hk .normal s g a w h (SExt.refl _ _ _) hr)
  | none, .label _, p, s, g, a, w, k, r, Q, hr, h, hk => wp_label (hk .normal s g a w h (SExt.refl _ _ _) hr)
  | none, .exit id, p, s, g, a, w, k, r, Q, hr, h, hk => wp_exit (hk (.exit id) s g a w h (SExt.refl _ _ _) hr)
  | none, .ret, p, s, g, a, w, k, r, Q, hr, h, hk => wp_ret (hk .ret s g a w h (SExt.refl _ _ _) hr)
  | none, .seq x y, p, s, g, a, w, k, r, Q, hr, h, hk => by
    refine wp_seq (ev_sound hT none x (2 * p) _ r _ hr h fun ex s' g' a' w' hx hext hrel => ?_)
    have hw1 : ∀ t, wrC ann (.seq x y) p t = false → wrC ann x (2 * p) t = false := fun t ht => by simp only [wrC, Bool.or_eq_false_iff] at ht; exact ht.1
    have hw2 : ∀ t, wrC ann (.seq x y) p t = false → wrC ann y (2 * p + 1) t = false := fun t ht => by simp only [wrC, Bool.or_eq_false_iff] at ht; exact ht.2
    cases ex with
    | normal =>
      refine ev_sound hT none y (2 * p + 1) k r Q hrel hx fun ex2 s2 g2 a2 w2 hx2 hext2 hrel2 => ?_
      exact hk ex2 s2 g2 a2 w2 hx2 (hext.trans hext2 hext.2.1 hw1 hw2) hrel2
    | exit id => exact hk (.exit id) s' g' a' w' hx (hext.wide hw1) hrel
    | ret => exact hk .ret s' g' a' w' hx (hext.wide hw1) hrel
    | goto l => exact hk (.goto l) s' g' a' w' hx (hext.wide hw1) hrel
  | none, .region id ops dr, p, s, g, a, w, k, r, Q, hr, h, hk => by
    obtain ⟨k', hk1, hk2⟩ := joinK_sound (fun t ht => by simp only [wrC, Bool.or_eq_false_iff] at ht; exact ht.2) hr h hk
    obtain ⟨s', h1, h2, h3⟩ := region_sound (Q := Q) (id := id) hT hr hk1
    exact h3 fun g' a' w' hrel => hk2 .normal s' g' a' w' h1 (h2.wide fun t ht => by simp only [wrC, Bool.or_eq_false_iff] at ht; exact ht.1) hrel
  | none, .cond c x y, p, s, g, a, w, k, r, Q, hr, h, hk => by
    obtain ⟨k', hk1, hk2⟩ := joinK_sound (fun t ht => by simp only [wrC, Bool.or_eq_false_iff] at ht; exact ht.2) hr h hk
    have hw1 : ∀ t, wrC ann (.cond c x y) p t = false → wrC ann x (2 * p) t = false := fun t ht => by simp only [wrC, Bool.or_eq_false_iff] at ht; exact ht.1.1
    have hw2 : ∀ t, wrC ann (.cond c x y) p t = false → wrC ann y (2 * p + 1) t = false := fun t ht => by simp only [wrC, Bool.or_eq_false_iff] at ht; exact ht.1.2
    obtain ⟨hc, _⟩ := ev_R hr c
    split at hk1
    · rename_i b hb
      rw [hb] at hc
      have hcv : a.eval c = .bool b := hc
      refine wp_cond hcv ?_
      cases b with
      | true =>
        simp only [if_true] at hk1 ⊢
        exact ev_sound hT none x (2 * p) k' r Q hr hk1 fun ex s' g' a' w' hx hext hrel => hk2 ex s' g' a' w' hx (hext.wide hw1) hrel
      | false =>
        simp only [Bool.false_eq_true, if_false] at hk1 ⊢
        exact ev_sound hT none y (2 * p + 1) k' r Q hr hk1 fun ex s' g' a' w' hx hext hrel => hk2 ex s' g' a' w' hx (hext.wide hw2) hrel
    · rename_i hb
      rw [hb] at hc
      obtain ⟨b, hcv⟩ : ∃ b, a.eval c = .bool b := hc
      refine wp_cond hcv ?_
      cases b with
      | true =>
        simp only [if_true]
        exact ev_sound hT none x (2 * p) k' r Q hr (both_left hk1) fun ex s' g' a' w' hx hext hrel => hk2 ex s' g' a' w' hx (hext.wide hw1) hrel
      | false =>
        simp only [Bool.false_eq_true, if_false]
        exact ev_sound hT none y (2 * p + 1) k' r Q hr (both_right hk1) fun ex s' g' a' w' hx hext hrel => hk2 ex s' g' a' w' hx (hext.wide hw2) hrel
    · cases hk1
  | none, .block id b, p, s, g, a, w, k, r, Q, hr, h, hk => by
    obtain ⟨k', hk1, hk2⟩ := joinK_sound (fun t ht => by simp only [wrC, Bool.or_eq_false_iff] at ht; exact ht.2) hr h hk
    have hw1 : ∀ t, wrC ann (.block id b) p t = false → wrC ann b (2 * p) t = false := fun t ht => by simp only [wrC, Bool.or_eq_false_iff] at ht; exact ht.1
    refine wp_block (ev_sound hT none b (2 * p) _ r _ hr hk1 fun ex s' g' a' w' hx hext hrel => ?_)
    cases ex with
    | normal => exact hk2 .normal s' g' a' w' hx (hext.wide hw1) hrel
    | exit i =>
      simp only at hx
      show (if i = id then Q .normal a' w' else Q (.exit i) a' w')
      by_cases e : i = id
      · rw [if_pos e] at hx ⊢; exact hk2 .normal s' g' a' w' hx (hext.wide hw1) hrel
      · rw [if_neg e] at hx ⊢; exact hk2 (.exit i) s' g' a' w' hx (hext.wide hw1) hrel
    | ret => exact hk2 .ret s' g' a' w' hx (hext.wide hw1) hrel
    | goto l => exact hk2 (.goto l) s' g' a' w' hx (hext.wide hw1) hrel
  | none, .loop b, p, s, g, a, w, k, r, Q, hr, h, hk => by
    simp only [evC] at h
    split at h
    · cases h
    · rename_i pk hann
      have hw1 : ∀ t, wrC ann (.loop b) p t = false → wrC ann b (2 * p) t = false := fun t ht => by simp only [wrC, Bool.or_eq_false_iff] at ht; exact ht.1
      have hw2 : ∀ t, wrC ann (.loop b) p t = false → inPk (some pk) t = false := fun t ht => by simp only [wrC, Bool.or_eq_false_iff] at ht; rw [← hann]; exact ht.2
      have hue : ∀ x : PK.den pk, SExt (wrC ann (.loop b) p) s.nx s (unpack pk (wrC ann (.loop b) p) s x) := fun x => unpack_ext fun t ht => ⟨ht, hw2 t ht⟩
      obtain ⟨x0, fro, own, hp, hc, hit⟩ := packK_some h
      obtain ⟨g1, hr1⟩ := repack (wr := wrC ann (.loop b) p) ⟨g, a, w, hr⟩ hr (SExt.refl _ _ _) hp hc
      have key : ∀ (n : Nat) (x : PK.den pk) (g : Nat → Value) (a : Act) (w : World), RelS B nt (unpack pk (wrC ann (.loop b) p) s x) g a w →
          iterK n (fun x rec => evC P T nt ann none b (2 * p) (unpack pk (wrC ann (.loop b) p) s x) fun ex s' => match ex with
            | .normal => packK pk s s' rec
            | e => k e s') x = some r → Code.rounds P b Q n a w := by
        intro n
        induction n with
        | zero => intro x g a w _ hi; cases hi
        | succ n ih =>
          intro x g2 a2 w2 hrel hi
          simp only [iterK] at hi
          refine ev_sound hT none b (2 * p) _ r _ hrel hi fun ex s' g' a' w' hx hext hrel' => ?_
          have hext2 : SExt (wrC ann (.loop b) p) s.nx s s' := (hue x).trans hext (hue x).2.1 (fun _ h => h) hw1
          cases ex with
          | normal =>
            obtain ⟨x', fro', own', hp', hc', hit'⟩ := packK_some (R := R) hx
            obtain ⟨g3, hr3⟩ := repack (wr := wrC ann (.loop b) p) ⟨g, _, _, hr⟩ hrel' hext2 hp' hc'
            exact ih x' g3 a' w' hr3 hit'
          | exit id => exact hk (.exit id) s' g' a' w' hx hext2 hrel'
          | ret => exact hk .ret s' g' a' w' hx hext2 hrel'
          | goto l => exact hk (.goto l) s' g' a' w' hx hext2 hrel'
      exact wp_loop_rounds _ (key _ x0 g1 a w hr1 hit)
  | none, .rangeFunc _ _ _ _, p, s, g, a, w, k, r, Q, hr, h, hk => by simp only [evC] at h; cases h
  | none, .goto l, p, s, g, a, w, k, r, Q, hr, h, hk => wp_goto (hk (.goto l) s g a w h (SExt.refl _ _ _) hr)
  | none, .refuse _, p, s, g, a, w, k, r, Q, hr, h, hk => by simp only [evC] at h; cases h
  | none, .scope b, p, s, g, a, w, k, r, Q, hr, h, hk => by
    have hw1 : ∀ t, wrC ann (.scope b) p t = false → wrC ann b (2 * p) t = false := fun t ht => by simp only [wrC, Bool.or_eq_false_iff] at ht; exact ht.1.1
    have hw3 : ∀ t, wrC ann (.scope b) p t = false → wrC ann b (2 * p + 1) t = false := fun t ht => by simp only [wrC, Bool.or_eq_false_iff] at ht; exact ht.1.2
    simp only [evC] at h
    split at h
    · rename_i pk l hann hlab
      have hw2 : ∀ t, wrC ann (.scope b) p t = false → inPk (some pk) t = false := fun t ht => by simp only [wrC, Bool.or_eq_false_iff] at ht; rw [← hann]; exact ht.2
      have hue : ∀ x : PK.den pk, SExt (wrC ann (.scope b) p) s.nx s (unpack pk (wrC ann (.scope b) p) s x) := fun x => unpack_ext fun t ht => ⟨ht, hw2 t ht⟩
      obtain ⟨rest, hrest⟩ := label_find hlab
      let body : PK.den pk → (PK.den pk → Option R) → Option R := fun x rec => evC P T nt ann (some l) b (2 * p + 1) (unpack pk (wrC ann (.scope b) p) s x) fun ex s' => match ex with
        | .goto l' => if l' = l then packK pk s s' rec else none
        | e => k e s'
      let Jn : Nat → Act → World → Prop := fun n a w => ∃ (x : PK.den pk) (g : Nat → Value), RelS B nt (unpack pk (wrC ann (.scope b) p) s x) g a w ∧ iterK n body x = some r
      let J : Act → World → Prop := fun a w => ∃ n, Jn n a w
      have hμ : ∃ μ : Act → World → Nat, ∀ a w, J a w → Jn (μ a w) a w ∧ ∀ m, Jn m a w → μ a w ≤ m := by
        refine ⟨fun a w => @dite _ (J a w) (Classical.propDecidable _) (fun h => Classical.choose (least h)) (fun _ => 0), fun a w hJ => ?_⟩
        simp only [dif_pos hJ]
        exact Classical.choose_spec (least hJ)
      obtain ⟨μ, hμ⟩ := hμ
      refine wp_scope_jumps l J μ hrest ?_ ?_
      · refine ev_sound hT none b (2 * p) _ r _ hr h fun ex s' g' a' w' hx hext hrel => ?_
        have hext2 := hext.wide hw1
        cases ex with
        | normal => exact hk .normal s' g' a' w' hx hext2 hrel
        | exit id => exact hk (.exit id) s' g' a' w' hx hext2 hrel
        | ret => exact hk .ret s' g' a' w' hx hext2 hrel
        | goto l' =>
          simp only at hx
          split at hx
          · rename_i hl
            obtain ⟨x', fro', own', hp', hc', hit'⟩ := packK_some (R := R) hx
            obtain ⟨g3, hr3⟩ := repack (wr := wrC ann (.scope b) p) ⟨g, _, _, hr⟩ hrel hext2 hp' hc'
            exact ⟨hl, _, x', g3, hr3, hit'⟩
          · cases hx
      · intro a1 w1 hJ
        obtain ⟨⟨x, g1, hr1, hit⟩, hmin⟩ := hμ a1 w1 hJ
        cases hn : μ a1 w1 with
        | zero => rw [hn] at hit; cases hit
        | succ n =>
          rw [hn] at hit
          simp only [iterK] at hit
          obtain ⟨rest', hf', hwp⟩ := ev_sound hT (some l) b (2 * p + 1) _ r (Exit.jump l (fun a' w' => J a' w' ∧ μ a' w' < n + 1) Q) hr1 hit fun ex s' g' a' w' hx hext hrel => by
            have hext2 : SExt (wrC ann (.scope b) p) s.nx s s' := (hue x).trans hext (hue x).2.1 (fun _ h => h) hw3
            cases ex with
            | normal => exact hk .normal s' g' a' w' hx hext2 hrel
            | exit id => exact hk (.exit id) s' g' a' w' hx hext2 hrel
            | ret => exact hk .ret s' g' a' w' hx hext2 hrel
            | goto l' =>
              simp only at hx
              split at hx
              · rename_i hl
                obtain ⟨x', fro', own', hp', hc', hit'⟩ := packK_some (R := R) hx
                obtain ⟨g3, hr3⟩ := repack (wr := wrC ann (.scope b) p) ⟨g, _, _, hr⟩ hrel hext2 hp' hc'
                have hjn : Jn n a' w' := ⟨x', g3, hr3, hit'⟩
                refine ⟨hl, ⟨n, hjn⟩, ?_⟩
                have := (hμ a' w' ⟨n, hjn⟩).2 n hjn
                omega
              · cases hx
          rw [hrest] at hf'
          cases hf'
          exact hwp
    · refine wp_scope_straight (ev_sound hT none b (2 * p) _ r _ hr h fun ex s' g' a' w' hx hext hrel => ?_)
      have hext2 := hext.wide hw1
      cases ex with
      | normal => exact hk .normal s' g' a' w' hx hext2 hrel
      | exit id => exact hk (.exit id) s' g' a' w' hx hext2 hrel
      | ret => exact hk .ret s' g' a' w' hx hext2 hrel
      | goto l' => cases hx
  | some l, .seq x y, p, s, g, a, w, k, r, Q, hr, h, hk => by
    have hw1 : ∀ t, wrC ann (.seq x y) p t = false → wrC ann x (2 * p) t = false := fun t ht => by simp only [wrC, Bool.or_eq_false_iff] at ht; exact ht.1
    have hw2 : ∀ t, wrC ann (.seq x y) p t = false → wrC ann y (2 * p + 1) t = false := fun t ht => by simp only [wrC, Bool.or_eq_false_iff] at ht; exact ht.2
    simp only [evC] at h
    split at h
    · obtain ⟨rest, hf, hwp⟩ := ev_sound hT (some l) x (2 * p) _ r (Exit.then (y.wp P Q) Q) hr h fun ex s' g' a' w' hx hext hrel => by
        cases ex with
        | normal => exact ev_sound hT none y (2 * p + 1) k r Q hrel hx fun ex2 s2 g2 a2 w2 hx2 hext2 hrel2 => hk ex2 s2 g2 a2 w2 hx2 (hext.trans hext2 hext.2.1 hw1 hw2) hrel2
        | exit id => exact hk (.exit id) s' g' a' w' hx (hext.wide hw1) hrel
        | ret => exact hk .ret s' g' a' w' hx (hext.wide hw1) hrel
        | goto l => exact hk (.goto l) s' g' a' w' hx (hext.wide hw1) hrel
      exact ⟨.seq rest y, by simp only [findLabel, hf], wp_seq hwp⟩
    · rename_i hf0
      obtain ⟨rest, hf, hwp⟩ := ev_sound hT (some l) y (2 * p + 1) k r Q hr h fun ex s' g' a' w' hx hext hrel => hk ex s' g' a' w' hx (hext.wide hw2) hrel
      exact ⟨rest, by simp only [findLabel, hf0]; exact hf, hwp⟩
  | some l, .label l', p, s, g, a, w, k, r, Q, hr, h, hk => by
    simp only [evC] at h
    split at h
    · rename_i hl
      exact ⟨.skip, by simp [findLabel, hl], wp_skip (hk .normal s g a w h (SExt.refl _ _ _) hr)⟩
    · cases h
  | some _, .skip, p, s, g, a, w, k, r, Q, hr, h, hk => by simp only [evC] at h; cases h
  | some _, .region .., p, s, g, a, w, k, r, Q, hr, h, hk => by simp only [evC] at h; cases h
  | some _, .cond .., p, s, g, a, w, k, r, Q, hr, h, hk => by simp only [evC] at h; cases h
  | some _, .block .., p, s, g, a, w, k, r, Q, hr, h, hk => by simp only [evC] at h; cases h
  | some _, .loop .., p, s, g, a, w, k, r, Q, hr, h, hk => by simp only [evC] at h; cases h
  | some _, .rangeFunc .., p, s, g, a, w, k, r, Q, hr, h, hk => by simp only [evC] at h; cases h
  | some _, .exit .., p, s, g, a, w, k, r, Q, hr, h, hk => by simp only [evC] at h; cases h
  | some _, .scope .., p, s, g, a, w, k, r, Q, hr, h, hk => by simp only [evC] at h; cases h
  | some _, .goto .., p, s, g, a, w, k, r, Q, hr, h, hk => by simp only [evC] at h; cases h
  | some _, .ret, p, s, g, a, w, k, r, Q, hr, h, hk => by simp only [evC] at h; cases h
  | some _, .refuse .., p, s, g, a, w, k, r, Q, hr, h, hk => by simp only [evC] at h; cases h

end Go.Proofs.Fr

/- A function does what its plain form says. -/
namespace Go.Proofs.Fr
open Go Go.RowKit
variable {R : Type} {P : Program} {T : Nat → List Sp} {nt : Nat} {ann : Nat → Option PK} {B : Bs} {fr : Nat → Prop} {s s' : S} {g g' : Nat → Value} {a : Act} {w : World} {H H' : Nat → Ob} {ok ok' : Nat → Prop} {Q : Exit → Act → World → Prop}

theorem pj_inj {vw : Nat → Vw} : ∀ (t : Ty) (x : t.den) (r : List L), pj vw t (inj t x ++ r) = some (x, r, [])
  | .int k, x, r => by simp [inj, pj]
  | .bool, x, r => by simp [inj, pj]
  | .str, x, r => by simp [inj, pj]
  | .sl E t, x, r => by simp [inj, pj, castL]
  | .nil, x, r => by simp [inj, pj]
  | .cons a b, x, r => by
    simp only [inj, List.append_assoc, pj, pj_inj a x.1 (inj b x.2 ++ r), pj_inj b x.2 r, List.nil_append]

def K.noMb : K → Bool
  | .mb .. => false
  | .bx _ c => c.noMb
  | .fn _ c => c.noMb
  | .cons a b => a.noMb && b.noMb
  | _ => true

/-- What is laid reads as what it was. -/
theorem pkC_mkC {H : Nat → Ob} : ∀ (k : K) (x : k.den) (n : Nat) (r : List L), k.noMb = true → (∀ (i : Nat) o, (mkC k x n).2[i]? = some o → H (n + i) = o) → ∃ lent, pkC H k ((mkC k x n).1 ++ r) = some (x, r, [], lent)
  | .v t, x, n, r, _, _ => ⟨[], by simp only [mkC, pkC, pj_inj]⟩
  | .own E t, x, n, r, _, h => by
    have h0 : H n = .row E t x := by simpa [mkC] using h 0 (.row E t x) rfl
    exact ⟨[n], by simp [mkC, pkC, h0, castL]⟩
  | .io E t, x, n, r, _, h => by
    have h0 : H n = .row E t x := by simpa [mkC] using h 0 (.row E t x) rfl
    exact ⟨[n], by simp [mkC, pkC, h0, castL]⟩
  | .bx T c, x, n, r, hm, h => by
    have h0 : H n = .box T (mkC c x (n + 1)).1 := by simpa [mkC] using h 0 _ rfl
    obtain ⟨lent, h1⟩ := pkC_mkC c x (n + 1) [] hm (fun i o hi => by have := h (i + 1) o (by simpa [mkC] using hi); rw [show n + 1 + i = n + (i + 1) by omega]; exact this)
    rw [List.append_nil] at h1
    exact ⟨n :: lent, by simp [mkC, pkC, h0, h1]⟩
  | .fn f c, x, n, r, hm, h => by
    cases hn : c.isNil with
    | true =>
      have := isNil_eq hn
      subst this
      exact ⟨[], by simp [mkC, pkC, K.isNil]⟩
    | false =>
      have h0 : H n = .clo f (mkC c x (n + 1)).1 := by simpa [mkC, hn] using h 0 (.clo f (mkC c x (n + 1)).1) (by simp [mkC, hn])
      obtain ⟨lent, h1⟩ := pkC_mkC c x (n + 1) [] hm (fun i o hi => by have := h (i + 1) o (by simpa [mkC, hn] using hi); rw [show n + 1 + i = n + (i + 1) by omega]; exact this)
      rw [List.append_nil] at h1
      exact ⟨lent, by simp [mkC, hn, pkC, h0, h1]⟩
  | .np, x, n, r, _, _ => ⟨[], by simp [mkC, pkC]⟩
  | .mb .., x, n, r, hm, _ => by cases hm
  | .nil, x, n, r, _, _ => ⟨[], by simp [mkC, pkC]⟩
  | .cons a b, x, n, r, hm, h => by
    simp only [K.noMb, Bool.and_eq_true] at hm
    have hl := mkC_len a x.1 n
    obtain ⟨l1, h1⟩ := pkC_mkC a x.1 n ((mkC b x.2 (n + a.nob)).1 ++ r) hm.1 (fun i o hi => h i o (by simp only [mkC]; rw [List.getElem?_append_left (List.getElem?_eq_some_iff.1 hi).1]; exact hi))
    obtain ⟨l2, h2⟩ := pkC_mkC b x.2 (n + a.nob) r hm.2 (fun i o hi => by
      have := h (a.nob + i) o (by simp only [mkC]; rw [List.getElem?_append_right (by omega), hl, Nat.add_sub_cancel_left]; exact hi)
      rw [Nat.add_assoc]; exact this)
    exact ⟨l1 ++ l2, by simp only [mkC, List.append_assoc, pkC, h1, h2, List.nil_append]⟩

/-- A kind of a whole value. -/
def K.top (k : K) : Bool := k.noMb && match k with
  | .nil | .cons .. => false
  | _ => true

theorem injD_agg (t : Ty) (x : t.den) : (injD t x).isAgg = t.isAgg := by cases t <;> rfl

theorem pkI {H : Nat → Ob} (k : K) (hk : k.top = true) (x : k.den) (n : Nat) (h : ∀ (i : Nat) o, (mkC k x n).2[i]? = some o → H (n + i) = o) : (mkI k x n).1.isAgg = k.isAgg ∧ ∃ lent, pkC H k (mkI k x n).1.ls = some (x, [], [], lent) := by
  have hm : k.noMb = true := by unfold K.top at hk; simp only [Bool.and_eq_true] at hk; exact hk.1
  obtain ⟨lent, hp⟩ := pkC_mkC k x n [] hm h
  rw [List.append_nil] at hp
  cases k with
  | v t =>
    refine ⟨injD_agg t x, lent, ?_⟩
    rw [show (mkI (.v t) x n).1 = injD t x from rfl, injD_ls]; exact hp
  | own E t => exact ⟨rfl, lent, hp⟩
  | io E t => exact ⟨rfl, lent, hp⟩
  | bx T c => exact ⟨rfl, lent, hp⟩
  | fn f c =>
    refine ⟨rfl, lent, ?_⟩
    have : (mkI (.fn f c) x n).1.ls = (mkC (.fn f c) x n).1 := by
      simp only [mkI, mkC]
      cases c.isNil <;> rfl
    rw [this]; exact hp
  | np => exact ⟨rfl, lent, hp⟩
  | mb T c => cases hm
  | nil => cases hk
  | cons a b => simp [K.top] at hk

theorem start_pk : ∀ (ks : List K) (x : dens ks) (i : Nat) (e : Nat → D) (H : Nat → Ob) (nx : Nat), ks.all K.top = true →
    ∃ lent, pkA (fillS e H nx ((List.range' i ks.length).map .slot) ks x).2 ks ((List.range' i ks.length).map (fillS e H nx ((List.range' i ks.length).map .slot) ks x).1) = some (x, [], lent)
  | [], x, i, e, H, nx, _ => ⟨[], rfl⟩
  | k :: r, x, i, e, H, nx, ht => by
    simp only [List.all_cons, Bool.and_eq_true] at ht
    simp only [List.length_cons, List.range'_succ, List.map_cons, fillS]
    obtain ⟨l2, h2⟩ := start_pk r x.2 (i + 1) (upd e i (.v (mkI k x.1 nx).1)) (setObs H nx (mkI k x.1 nx).2) (nx + k.nob) ht.2
    have hslot : (fillS (upd e i (.v (mkI k x.1 nx).1)) (setObs H nx (mkI k x.1 nx).2) (nx + k.nob) ((List.range' (i + 1) r.length).map .slot) r x.2).1 i = .v (mkI k x.1 nx).1 := by
      rw [fill_slot _ _ _ _ (by simp [List.mem_range'_1]; omega), upd_same]
    have hob : ∀ (q : Nat) o, (mkC k x.1 nx).2[q]? = some o → (fillS (upd e i (.v (mkI k x.1 nx).1)) (setObs H nx (mkI k x.1 nx).2) (nx + k.nob) ((List.range' (i + 1) r.length).map .slot) r x.2).2 (nx + q) = o := by
      intro q o hq
      have hlt : q < k.nob := by rw [← mkC_len k x.1 nx]; exact (List.getElem?_eq_some_iff.1 hq).1
      rw [fill_keep _ _ _ _ (.inl (by omega)) (by rw [objT_slots]; simp)]
      exact (setObs_at _ H nx (nx + q)).1 q o (by rw [mkI_obs]; exact hq) rfl
    obtain ⟨hag, l1, h1⟩ := pkI k ht.1 x.1 nx hob
    rw [hslot]
    refine ⟨l1 ++ l2, ?_⟩
    simp only [pkA]
    rw [if_pos hag, h1]
    simp only
    rw [h2]
    rfl

theorem tgSlots_eq (n : Nat) : tgSlots n = (List.range' 0 n).map .slot := by unfold tgSlots; rw [List.range_eq_range']

theorem pkA_len {H : Nat → Ob} : ∀ {ks : List K} {ds : List D} {x : dens ks} {fro lent : List Nat}, pkA H ks ds = some (x, fro, lent) → ds.length = ks.length
  | [], ds, x, fro, lent, h => by
    simp only [pkA] at h
    split at h
    · rfl
    · cases h
  | k :: r, ds, x, fro, lent, h => by
    simp only [pkA] at h
    split at h
    · split at h
      · split at h
        · split at h
          · rename_i h2
            simp [pkA_len h2]
          · cases h
        · cases h
      · cases h
    · cases h

/-- Where a call begins. -/
theorem start_rel {f : Func} {ks : List K} (htop : ks.all K.top = true) {x : dens ks} {vs : List Value} {bs : List Nat} (hok : ∀ k, ok k → k < w.heap.size) (h : AR w ok ks x vs bs) (hnd : bs.Nodup) (hdis : ∀ b ∈ bs, ¬ ok b) :
    ∃ (B : Bs), B.W = w ∧ (∀ k, B.A k ↔ (ok k ∨ k ∈ bs ∨ w.heap.size ≤ k)) ∧ (∀ k, B.O k ↔ (k ∈ bs ∨ w.heap.size ≤ k)) ∧
      RelS B f.ntmps (startS ks x) B.g0 { tmps := vs.toArray ++ Array.replicate (f.ntmps - vs.toArray.size) undef, defers := [] } w ∧
      ∃ lv : List Nat, lentA (startS ks x).H ks ((List.range ks.length).map (startS ks x).e) = lv ∧ lv.length = (backs ks).length ∧ lvA ks vs = lv.map B.g0 ∧ (∀ (j : Nat) id k', lv[j]? = some id → (backs ks)[j]? = some k' → fits k' ((startS ks x).H id) ∧ k'.isOb = true) ∧ (∀ id ∈ lv, id < B.n0) ∧ B.sh0 = (fun id => shO ((startS ks x).H id)) := by
  obtain ⟨gs, hgl, hfill⟩ := fillS_R (tgs := tgSlots ks.length) (ks := ks) (x := x) (fun _ => .one .skip) (fun _ => .gone) 0 h (by simp [tgSlots]) (fun id hid => by unfold tgSlots at hid; rw [objT_slots] at hid; cases hid) (by unfold tgSlots; rw [objT_slots]; exact List.nodup_nil)
    (fun j id k h1 _ => by unfold tgSlots at h1; simp only [List.getElem?_map] at h1; cases e : (List.range ks.length)[j]? <;> rw [e] at h1 <;> simp at h1)
  have hvl := h.vlen
  have hget : ∀ j, (vs.toArray ++ Array.replicate (f.ntmps - vs.toArray.size) undef).getD j undef = vs.getD j undef := by
    intro j
    simp only [Array.getD_eq_getD_getElem?, List.getD_eq_getElem?_getD, Array.getElem?_append, List.size_toArray, List.getElem?_toArray]
    by_cases hj : j < vs.length
    · simp [hj]
    · simp only [hj, if_false]
      rw [List.getElem?_eq_none (by omega)]
      cases hq : (Array.replicate (f.ntmps - vs.length) undef)[j - vs.length]? with
      | none => rfl
      | some v =>
        obtain ⟨_, e⟩ := Array.getElem?_eq_some_iff.1 hq
        simp at e
        subst e; rfl
  let G : Nat → Value := fun id => gs.getD id undef
  have hF := hfill G (fun t => vs.getD t undef) (fun i v hi => by
      show gs.getD (0 + i) undef = v
      rw [Nat.zero_add, List.getD_eq_getElem?_getD, hi]; rfl)
    (fun j t v h1 h2 => by
      unfold tgSlots at h1
      by_cases hj : j < ks.length
      · simp [hj] at h1; subst h1; rw [List.getD_eq_getElem?_getD, h2]; rfl
      · simp [hj] at h1)
    (fun j id v h1 _ => by
      unfold tgSlots at h1
      by_cases hj : j < ks.length
      · simp [hj] at h1
      · simp [hj] at h1)
  let N := nobP (tgSlots ks.length) ks
  let F := fillS (fun _ => .one .skip) (fun _ => .gone) 0 (tgSlots ks.length) ks x
  have hF' : Filled G (fun t => vs.getD t undef) w ok (fun _ => .one .skip) 0 (tgSlots ks.length) ks bs F := hF
  have htch : ∀ id, tch (tgSlots ks.length) ks 0 id ↔ id < N := by
    intro id
    unfold tch tgSlots
    rw [objT_slots]
    simp only [List.not_mem_nil, or_false, Nat.zero_le, true_and, Nat.zero_add]
    exact Iff.rfl
  have hgone : ∀ id, N ≤ id → F.2 id = .gone := fun id hid => fill_keep _ _ _ _ (.inr (by rw [Nat.zero_add]; exact hid)) (by unfold tgSlots; rw [objT_slots]; simp)
  have hown : ∀ i k, owned G F.2 i = some k → i < N ∧ k ∈ bs := by
    intro i k hi
    by_cases hlt : i < N
    · exact ⟨hlt, hF'.own i k ((htch i).2 hlt) hi⟩
    · rw [owned_eq, hgone i (by omega)] at hi; cases hi
  let B : Bs := ⟨w, fun k => ok k ∨ k ∈ bs ∨ w.heap.size ≤ k, fun k => k ∈ bs ∨ w.heap.size ≤ k, fun _ => .inr, fun k hk => .inr hk, N, G, fun id => shO (F.2 id)⟩
  have hokn : ∀ k, ok k → okB B G F.2 w k := fun k hk => ⟨hok k hk, fun i hi => hdis k (hown i k hi).2 hk, .inl hk⟩
  have hrel : Rel B f.ntmps (fun j => N ≤ j) (startS ks x) G { tmps := vs.toArray ++ Array.replicate (f.ntmps - vs.toArray.size) undef, defers := [] } w := by
    refine ⟨fun t => ?_, fun t id hid hf => ?_, fun id => ?_, fun id j hj hf => ?_, fun i j k hi hj => ?_, fun i k hi => .inl (hown i k hi).2, ⟨rfl, rfl, rfl, Nat.le_refl _, fun _ _ _ => rfl⟩, hgone, ?_, rfl, fun id hid => ⟨by have : id < N := hid; omega, .inr ⟨rfl, rfl⟩⟩⟩
    · show DR G F.2 w _ (F.1 t) _
      rw [hget]
      rcases hF'.slot t with ⟨h1, h2⟩ | ⟨h1, _⟩
      · have ht : ¬ t < ks.length := fun hlt => h2 (List.mem_map.2 ⟨t, List.mem_range.2 hlt, rfl⟩)
        rw [h1, List.getD_eq_getElem?_getD, List.getElem?_eq_none (by omega)]
        rfl
      · exact DR.mono (fun k hk => ⟨hokn k hk, rfl⟩) (fun _ _ => .inr ⟨rfl, rfl⟩) h1
    · have hid' : id ∈ (F.1 t).ids := hid
      rcases hF'.slot t with ⟨h1, _⟩ | ⟨_, h2⟩
      · rw [h1] at hid'; simp [D.ids, D0.ids, D0.ls, L.ids] at hid'
      · have := h2 id hid'; have e : N = nobP (tgSlots ks.length) ks := rfl; omega
    · show OB G F.2 w _ id (F.2 id)
      by_cases hlt : id < N
      · exact OB.mono (fun k hk => ⟨hokn k hk, rfl⟩) rfl rfl (fun _ _ => rfl) (fun _ _ => .inr ⟨rfl, rfl⟩) (hF'.ob id ((htch id).2 hlt)).1
      · rw [hgone id (by omega)]; trivial
    · have hj' : j ∈ (F.2 id).kids := hj
      by_cases hlt : id < N
      · have := (hF'.ob id ((htch id).2 hlt)).2 j hj'; have e : N = nobP (tgSlots ks.length) ks := rfl; omega
      · rw [hgone id (by omega)] at hj'; cases hj'
    · exact hF'.inj hnd i j k ((htch i).2 (hown i k hi).1) ((htch j).2 (hown j k hj).1) hi hj
    · simp only [Array.size_append, List.size_toArray, Array.size_replicate]; omega
  refine ⟨B, rfl, fun _ => Iff.rfl, fun _ => Iff.rfl, hrel, _, rfl, ?_⟩
  obtain ⟨lent, hpk⟩ := start_pk ks x 0 (fun _ => .one .skip) (fun _ => .gone) 0 htop
  rw [← tgSlots_eq, ← List.range_eq_range'] at hpk
  have hds : All2 (DR G F.2 w (okB B G F.2 w)) ((List.range ks.length).map F.1) vs := by
    refine All2.of_get (by simp [hvl]) fun i hi hi' => ?_
    have := hrel.slots i
    simp only [hget] at this
    rw [List.getD_eq_getElem?_getD, List.getElem?_eq_getElem hi'] at this
    have h9 : DR G F.2 w (okB B G F.2 w) (F.1 i) vs[i] := this
    simpa using h9
  obtain ⟨q1, q2, q3, q4⟩ := lentA_R (Hv := F.2) (fun _ => .inr rfl) hrel.objs hpk hds
  refine ⟨q2, q3, q4, fun id hid => ?_, rfl⟩
  obtain ⟨j, hj, rfl⟩ := List.getElem_of_mem hid
  have hj2 : j < (backs ks).length := by rw [← q2]; exact hj
  have hfit := (q4 j _ _ (List.getElem?_eq_getElem hj) (List.getElem?_eq_getElem hj2)).1
  have fin : ∀ (kk : K) (id : Nat), fits kk (F.2 id) → id < N := by
    intro kk id hf
    by_cases hlt : id < N
    · exact hlt
    · exfalso
      rw [hgone id (Nat.le_of_not_lt hlt)] at hf
      unfold fits at hf
      split at hf
      · obtain ⟨_, e⟩ := hf; cases e
      · obtain ⟨_, e⟩ := hf; cases e
      · obtain ⟨_, e⟩ := hf; cases e
      · exact hf
  exact fin _ _ hfit

def resOp (tmps : Array Value) : ResultVar → Sem Value
  | .tmp t => pure (tmps.getD t undef)
  | .cell a t => do loadVar t (← asAddr (tmps.getD a undef))

theorem results_eq (fn : Func) (tmps : Array Value) : results fn tmps = (do let vs ← fn.results.mapM (resOp tmps); pure (if h : vs.size = 1 then vs[0] else .tuple vs)) := by
  unfold results
  congr 1

theorem res_one (hr : Rel B nt fr s g a w) {rv : ResultVar} {l : List ResultVar} {ds : List D} (h : resVals P s (rv :: l) = some ds) : ∃ d ds', ds = d :: ds' ∧ resVals P s l = some ds' ∧ ∃ v, (resOp a.tmps rv).run P w = .ok v w ∧ DR g s.H w (okB B g s.H w) d v := by
  cases rv with
  | tmp t =>
    simp only [resVals] at h
    split at h
    · rename_i ds' hds
      cases h
      exact ⟨_, ds', rfl, hds, _, rfl, hr.slots t⟩
    · cases h
  | cell t T0 =>
    simp only [resVals] at h
    split at h
    · rename_i l ti he hti
      split at h
      · rename_i ls off hc
        split at h
        · rename_i q hq
          split at h
          · rename_i d ds' hm hds
            cases h
            refine ⟨d, ds', rfl, hds, ?_⟩
            have h1 := hr.slots t
            rw [he] at h1
            obtain ⟨kk, base, cs, hva, ha, hcell⟩ := cellsAt_R (vw := fun j => (s.H j).vw) (ok' := fun _ => True) (fun id => .inr rfl) hr.objs h1 hc (fun _ _ => trivial)
            obtain ⟨hl, hq2, _⟩ := cut_R ha hq
            obtain ⟨hD, _⟩ := mkD_R hq2 hm
            have hlen : ((cs.drop off).take (if isAggD ti.desc then ti.size else 1)).length = if isAggD ti.desc then ti.size else 1 := by rw [← hq2.len, hl]
            refine ⟨_, ?_, hD⟩
            have hload := run_loadVar_cells (P := P) hti w kk (base + off) _ hlen (fun j u hj => by
              have hj' : cs[off + j]? = some u := by
                have hlt := (List.getElem?_eq_some_iff.1 hj).1
                rw [List.getElem?_take_of_lt (by simp only [List.length_take] at hlt; omega)] at hj
                simpa [List.getElem?_drop] using hj
              rw [Nat.add_assoc]; exact hcell _ _ hj')
            simp only [resOp, hva, asAddr, Sem.run_bind, Sem.run_pure, Result.andThen_ok, hload]
          · cases h
        · cases h
      · cases h
    · cases h

theorem res_run (hr : Rel B nt fr s g a w) : ∀ {l : List ResultVar} {ds : List D}, resVals P s l = some ds → ∃ vs, (l.mapM (resOp a.tmps)).run P w = .ok vs w ∧ All2 (DR g s.H w (okB B g s.H w)) ds vs
  | [], ds, h => by simp only [resVals] at h; cases h; exact ⟨[], rfl, trivial⟩
  | rv :: l, ds, h => by
    obtain ⟨d, ds', rfl, hds, v, hv, hd⟩ := res_one hr h
    obtain ⟨vs, h1, h2⟩ := res_run hr hds
    refine ⟨v :: vs, ?_, hd, h2⟩
    rw [List.mapM_cons]
    simp only [Sem.run_bind, hv, Sem.run_pure, Result.andThen_ok, h1]

theorem retV_eq (vs : List Value) : (if h : vs.toArray.size = 1 then vs.toArray[0] else .tuple vs.toArray) = retV vs := by
  match vs with
  | [] => rfl
  | [v] => rfl
  | v :: u :: r => simp [retV]

theorem idN_top {ins outs : List K} {sem : dens ins → Option (dens (outs ++ backs ins))} (h : ins.all K.top = true) : (Sp.mk ins outs sem).idN = none := by
  unfold Sp.idN
  split
  · rename_i n heq
    have e : ins = [.cons .nil (.bx n .nil)] := heq
    subst e
    simp [K.top] at h
  · rfl

theorem fn_sound (hT : ∀ f sp, sp ∈ T f → Sound P f sp) {f : FuncId} {fn : Func} (hf : P.funcs[f]? = some fn) (ent : ∀ args w, (callFunc f args).run P w = .ok (.enter f args) w) {ins outs : List K} (htop : ins.all K.top = true) :
    Sound P f ⟨ins, outs, fnSem P T ann fn ins outs⟩ := by
  refine ⟨ent, fun x y hxy w vs ok bs hok hargs hnd hdis => ?_, fun n hid => ?_⟩
  rotate_left
  · exfalso
    rw [idN_top htop] at hid
    cases hid
  have h : fnSem P T ann fn ins outs x = some y := hxy
  unfold fnSem at h
  split at h
  · cases h
  · rename_i c hb
    obtain ⟨B, hBW, hBA, hBO, hrel0, lv, hlv, hlvl, hlvv, hlvf, hlvn, hsh0⟩ := start_rel (f := fn) htop hok hargs hnd hdis
    refine calls_of_wp hf hb (ev_sound (B := B) hT none c 1 _ y _ hrel0 h fun ex s' g' a' w' hx hext hrel => ?_)
    have key : (match resVals P s' fn.results.toList with
      | none => none
      | some ds => match pkA s'.H (outs ++ backs ins) (ds ++ lentD ins (startS ins x)) with
        | some (y, fro, own) => bif lentOk fro own then some y else none
        | none => none) = some y → ∃ v, (results fn a'.tmps).run P w' = .ok v w' ∧ ∃ rs bs' ok', Ending.returned v = .returned (retV rs) ∧ rs.length = outs.length ∧ AR w' ok' (outs ++ backs ins) y (rs ++ lvA ins vs) bs' ∧ bs'.Nodup ∧ (∀ b ∈ bs', b ∈ bs ∨ w.heap.size ≤ b) ∧
          (∀ k, ok' k → (ok k ∨ k ∈ bs ∨ w.heap.size ≤ k) ∧ k < w'.heap.size ∧ k ∉ bs') ∧ BelowO (fun k => k ∈ bs ∨ w.heap.size ≤ k) w w' := by
      intro hk
      split at hk
      · cases hk
      · rename_i ds hds
        split at hk
        · rename_i y' fro own hpk
          cases hc : lentOk fro own with
          | false => rw [hc] at hk; cases hk
          | true =>
            rw [hc] at hk
            cases hk
            obtain ⟨hon, hof⟩ := lentOk_spec hc
            obtain ⟨rs, hrun, hrs⟩ := res_run (P := P) hrel hds
            -- what was lent is where it was
            have hld : All2 (DR g' s'.H w' (okB B g' s'.H w')) (lentD ins (startS ins x)) (lvA ins vs) := by
              rw [hlvv]
              unfold lentD
              rw [hlv]
              refine All2.of_get (by simp [hlvl]) fun j hj hj' => ?_
              simp only [List.length_map] at hj'
              have hj2 : j < (backs ins).length := by rw [← hlvl]; exact hj'
              have hfit := (hlvf j _ _ (List.getElem?_eq_getElem hj') (List.getElem?_eq_getElem hj2))
              have hkp := (hrel.kp lv[j] (hlvn _ (List.getElem_mem hj'))).2
              have hob := hrel0.objs lv[j]
              simp only [List.getElem_zipWith, List.getElem_map]
              have hst : shO ((startS ins x).H lv[j]) = B.sh0 lv[j] := by rw [hsh0]
              revert hfit
              generalize (backs ins)[j] = kk
              intro hfit
              cases kk with
              | own E t =>
                obtain ⟨⟨xs, e⟩, _⟩ := hfit
                rw [e] at hob hst
                obtain ⟨A, c, hv, _⟩ := RowO.slice_ hob
                refine ⟨by rw [hv]; rfl, fun t' n' hs => ?_⟩
                rcases hkp with h | ⟨_, h⟩
                · rw [h] at hs; cases hs
                · exact h.symm
              | bx T c =>
                obtain ⟨⟨ls, e⟩, _⟩ := hfit
                rw [e] at hob hst
                obtain ⟨kb, arr, hv, _⟩ := hob
                refine ⟨⟨_, hv⟩, fun q hs => ?_⟩
                rcases hkp with h | ⟨_, h⟩
                · rw [h] at hs; cases hs
                · exact ⟨kb, h.trans hv, hv⟩
              | _ => cases hfit.2
            have hall := hrs.app hld
            let bs' := own.filterMap (owned g' s'.H)
            have hbs : ∀ b ∈ bs', ∃ i ∈ own, owned g' s'.H i = some b := fun b hb' => by
              obtain ⟨i, hi, e⟩ := List.mem_filterMap.1 hb'
              exact ⟨i, hi, e⟩
            let ok' : Nat → Prop := fun k => (ok k ∨ k ∈ bs ∨ w.heap.size ≤ k) ∧ k < w'.heap.size ∧ k ∉ bs'
            have hAR : AR w' ok' (outs ++ backs ins) y (rs ++ lvA ins vs) bs' := pkA_R (Hv := s'.H) (fun _ => .inr rfl) hrel.objs (fun k hk => ⟨(hBA k).1 hk.2.2, hk.1, fun hm => by obtain ⟨i, _, e⟩ := hbs k hm; exact hk.2.1 i e⟩) hpk hall (fun id hid k hk => by
              refine ⟨.inr ((hBO k).1 (hrel.base id k hk)), OB.lt (hrel.objs id) rfl hk, fun hm => ?_⟩
              obtain ⟨i, hi, e⟩ := hbs k hm
              have := hrel.disj i id k e hk
              subst this
              exact hof i hi hid)
            have hbn : ∀ {l : List Nat}, l.Nodup → (l.filterMap (owned g' s'.H)).Nodup := by
              intro l
              induction l with
              | nil => intro _; exact List.nodup_nil
              | cons i l ih =>
                intro hn
                obtain ⟨n1, n2⟩ := List.nodup_cons.1 hn
                rw [List.filterMap_cons]
                cases e : owned g' s'.H i with
                | none => exact ih n2
                | some b =>
                  refine List.nodup_cons.2 ⟨fun hm => ?_, ih n2⟩
                  obtain ⟨j, hj, e'⟩ := List.mem_filterMap.1 hm
                  exact n1 ((hrel.disj i j b e e') ▸ hj)
            have hrl : rs.length = outs.length := by
              have h1 := pkA_len hpk
              have h2 := hrs.len
              have h3 : (lentD ins (startS ins x)).length = (backs ins).length := by unfold lentD; rw [hlv]; simp [hlvl]
              simp only [List.length_append] at h1
              omega
            refine ⟨retV rs, ?_, rs, bs', ok', rfl, hrl, hAR, hbn hon, fun b hb' => ?_, fun k hk => hk, ?_⟩
            · rw [results_eq, Array.mapM_eq_mapM_toList]
              simp only [Sem.run_bind, Sem.run_map, hrun, Result.andThen_ok, Sem.run_pure, retV_eq]
            · obtain ⟨i, _, e⟩ := hbs b hb'
              exact (hBO b).1 (hrel.base i b e)
            · have hfr := hrel.frm
              rw [hBW] at hfr
              exact ⟨hfr.os, hfr.tape, hfr.output, hfr.size, fun k h1 h2 => hfr.block k h1 fun h3 => h2 ((hBO k).1 h3)⟩
        · cases hk
    cases ex with
    | exit id => cases hx
    | goto l => cases hx
    | normal =>
      obtain ⟨v, h1, h2⟩ := key hx
      exact ⟨hrel.dfr, v, h1, h2⟩
    | ret =>
      obtain ⟨v, h1, h2⟩ := key hx
      exact ⟨hrel.dfr, v, h1, h2⟩

end Go.Proofs.Fr

/- Tables of contracts and of notes; what a function's name and body must be. -/
namespace Go.Proofs.Fr
open Go Go.RowKit

def tabT : List (Nat × List Sp) → Nat → List Sp
  | [], _ => []
  | x :: r, n => bif Nat.beq n x.1 then x.2 else tabT r n

def annT : List (Nat × PK) → Nat → Option PK
  | [], _ => none
  | x :: r, n => bif Nat.beq n x.1 then some x.2 else annT r n

variable {P : Program}
theorem tab_nil : ∀ f sp, sp ∈ tabT [] f → Sound P f sp := fun _ _ h => by cases h
theorem sps_nil {n : Nat} : ∀ sp ∈ ([] : List Sp), Sound P n sp := fun _ h => by cases h
theorem sps_cons {n : Nat} {s : Sp} {l : List Sp} (h : Sound P n s) (t : ∀ sp ∈ l, Sound P n sp) : ∀ sp ∈ s :: l, Sound P n sp := fun sp hm => by
  rcases List.mem_cons.1 hm with rfl | hm
  · exact h
  · exact t sp hm
theorem tab_cons {n : Nat} {s : List Sp} {l : List (Nat × List Sp)} (h : ∀ sp ∈ s, Sound P n sp) (t : ∀ f sp, sp ∈ tabT l f → Sound P f sp) : ∀ f sp, sp ∈ tabT ((n, s) :: l) f → Sound P f sp := by
  intro f sp hf
  simp only [tabT] at hf
  cases e : Nat.beq f n with
  | true =>
    rw [e] at hf
    have : f = n := Nat.eq_of_beq_eq_true e
    rw [this]; exact h sp hf
  | false => rw [e] at hf; exact t f sp hf

theorem ent_of {f : FuncId} {fn : Func} (hf : P.funcs[f]? = some fn) (hn : (fn.name == "runtime.NumGoroutine") = false) (hb : fn.body.isNone = false) : ∀ args w, (callFunc f args).run P w = .ok (.enter f args) w := by
  intro args w
  simp only [callFunc, Sem.run_bind, run_program, Result.andThen_ok, hf, hn, hb, Bool.false_eq_true, if_false, Sem.run_pure]

end Go.Proofs.Fr

/- What a law's arguments read as: plain values of their types. -/
namespace Go.Proofs.Fr
open Go Go.RowKit

/-- A plain value that an argument may be. -/
def Wf (P : Program) : (t : Ty) → t.den → Prop
  | .int k, n => (Lit.int k n).wf = true
  | .bool, _ => True
  | .str, s => s.size ≤ 140737488351232
  | .sl E t, xs => List.length (α := t.den) xs * P.bytesOf E ≤ 140737488351232 ∧ ∀ x ∈ (xs : List t.den), Wf P t x
  | .nil, _ => True
  | .cons a b, x => Wf P a x.1 ∧ Wf P b x.2

def fieldsOk (P : Program) (lay : TypeId → Ty → Bool) : List Field → Nat → Ty → Bool
  | [], _, t => match t with
    | .nil => true
    | _ => false
  | f :: fs, off, t => match t with
    | .cons a b => Nat.beq f.offset off && lay f.type a && Nat.beq (P.cellsOf f.type) a.sz && fieldsOk P lay fs (off + a.sz) b
    | _ => false

def arrOk (P : Program) (lay : TypeId → Ty → Bool) (e : TypeId) : Nat → Ty → Bool
  | 0, t => match t with
    | .nil => true
    | _ => false
  | n + 1, t => match t with
    | .cons a b => lay e a && Nat.beq (P.cellsOf e) a.sz && arrOk P lay e n b
    | _ => false

/-- The type's table says just this. -/
def layOk (P : Program) : Nat → TypeId → Ty → Bool
  | 0, _, _ => false
  | n + 1, T, t => match P.underlying T with
    | some .bool => match t with
      | .bool => true
      | _ => false
    | some (.int k) => match t with
      | .int k' => if k = k' then true else false
      | _ => false
    | some .string => match t with
      | .str => true
      | _ => false
    | some (.slice e) => match t with
      | .sl E t' => Nat.beq e E && layOk P n e t' && Nat.beq (P.cellsOf e) t'.sz && Nat.blt 0 t'.sz
      | _ => false
    | some (.struct fs) => fieldsOk P (layOk P n) fs.toList 0 t && Nat.beq (P.cellsOf T) t.sz
    | some (.array m e) => arrOk P (layOk P n) e m t && Nat.beq (P.cellsOf T) t.sz
    | _ => false

def OpensT (P : Program) (T : TypeId) (t : Ty) : Prop :=
  ∀ {H : Type} (enc : TypeId × Value → H) (w : World) (base : Nat) (spare : Nat → Bool) (held : Bool) (fuel : Nat) (cs : List Value) (x : DataW H × List MemPlace),
    DataW.trod enc P w base spare held fuel T cs = some x → (x.1.weights P T).all (· ≤ reachBytes) = true → ∃ a : t.den, En w (fun k => k < w.heap.size) t a cs ∧ Wf P t a

variable {P : Program}

theorem weightsAll_mem' {H : Type} {e : TypeId} : ∀ {ds : List (DataW H)} {d : DataW H}, d ∈ ds → ∀ n ∈ d.weights P e, n ∈ DataW.weightsAll P e ds
  | d0 :: ds, d, hd, n, hn => by
    simp only [DataW.weightsAll, List.mem_append]
    rcases List.mem_cons.1 hd with rfl | hd
    · exact .inl hn
    · exact .inr (weightsAll_mem' hd n hn)

theorem cell_addr {w : World} {a : Addr} {v : Value} (h : w.cell? a = some v) : a = ⟨a.block, a.off, none⟩ ∧ a.block < w.heap.size := by
  obtain ⟨k, o, sp⟩ := a
  refine ⟨?_, World.block_lt_of_cell? w _ h⟩
  unfold World.cell? at h
  split at h
  · cases sp with
    | none => rfl
    | some q => simp at h
  · cases h

theorem opens_slice {T e : TypeId} {t : Ty} (ht : P.underlying T = some (.slice e)) (hc : P.cellsOf e = t.sz) (h0 : 0 < t.sz) (he : OpensT P e t) : OpensT P T (.sl e t) := by
  intro H enc w base spare held fuel cs x h hsz
  rcases Deep.open_slice ht h with ⟨rfl, rfl⟩ | ⟨a, len, cap, m, n, D, Pl, rfl, hb, hl, hm, hmm, rfl, hi⟩
  · exact ⟨[], ⟨none, 0, rfl, Nat.le_refl _, fun i hi => by simp at hi⟩, by simp [Wf]⟩
  · have hlm : len ≤ m := by rw [hmm]; split <;> omega
    have hall := List.all_eq_true.1 hsz
    simp only [DataW.weights, ht, List.mem_cons, List.mem_append, decide_eq_true_eq] at hall
    have hpick : ∀ i, i < len → ∃ a1 : t.den, (∃ cs', w.cells? base (a.add (i * P.cellsOf e)) (P.cellsOf e) = some cs' ∧ En w (fun k => k < w.heap.size) t a1 cs') ∧ Wf P t a1 := by
      intro i hil
      obtain ⟨cs', hcs, htr⟩ := hi i (by omega)
      obtain ⟨a1, hk, hw⟩ := he enc w base spare held n cs' _ htr (List.all_eq_true.2 fun z hz => by
        have := hall z (.inr (.inl (weightsAll_mem' (List.mem_map.2 ⟨i, by simpa using hil, rfl⟩) z hz)))
        simpa using this)
      exact ⟨a1, ⟨cs', hcs, hk⟩, hw⟩
    have hlist : ∃ l : List t.den, l.length = len ∧ ∀ (i : Nat) (p : t.den), l[i]? = some p → (∃ cs', w.cells? base (a.add (i * P.cellsOf e)) (P.cellsOf e) = some cs' ∧ En w (fun k => k < w.heap.size) t p cs') ∧ Wf P t p := by
      have key : ∀ q, q ≤ len → ∃ l : List t.den, l.length = q ∧ ∀ (i : Nat) (p : t.den), l[i]? = some p → (∃ cs', w.cells? base (a.add (i * P.cellsOf e)) (P.cellsOf e) = some cs' ∧ En w (fun k => k < w.heap.size) t p cs') ∧ Wf P t p := by
        intro q
        induction q with
        | zero => intro _; exact ⟨[], rfl, fun i p hp => by simp at hp⟩
        | succ q ih =>
          intro hq
          obtain ⟨l, hlen, hl⟩ := ih (by omega)
          obtain ⟨a1, h1, h2⟩ := hpick q (by omega)
          refine ⟨l ++ [a1], by simp [hlen], fun i p hp => ?_⟩
          by_cases hiq : i < q
          · rw [List.getElem?_append_left (by omega)] at hp
            exact hl i p hp
          · have hi2 : i < (l ++ [a1]).length := (List.getElem?_eq_some_iff.1 hp).1
            have : i = q := by simp [hlen] at hi2; omega
            subst this
            rw [List.getElem?_append_right (by omega), hlen, Nat.sub_self] at hp
            simp only [List.getElem?_cons_zero, Option.some.injEq] at hp
            subst hp
            exact ⟨h1, h2⟩
      exact key len (Nat.le_refl _)
    obtain ⟨l, hlen, hl2⟩ := hlist
    subst hlen
    refine ⟨l, ⟨some a, cap, rfl, hl, fun i hi => ?_⟩, ?_, fun x hx => ?_⟩
    · obtain ⟨⟨cs', hcs, hk⟩, _⟩ := hl2 i _ (List.getElem?_eq_getElem hi)
      obtain ⟨_, hcl, hat⟩ := World.cells?_some hcs
      have hlen' : cs'.length = t.sz := hk.len
      -- the first element's first cell tells that the address is plain
      have hplain : a = ⟨a.block, a.off, none⟩ ∧ a.block < w.heap.size := by
        obtain ⟨⟨cs0, hcs0, hk0⟩, _⟩ := hl2 0 _ (List.getElem?_eq_getElem (show 0 < l.length by have : i < l.length := hi; omega))
        obtain ⟨_, hcl0, hat0⟩ := World.cells?_some hcs0
        have hl0 : 0 < cs0.length := by rw [hk0.len]; exact h0
        have := hat0 0 (by rw [hc]; exact h0)
        rw [List.getElem?_eq_getElem hl0] at this
        have ha0 : (a.add (0 * P.cellsOf e)).add 0 = a := by rw [Nat.zero_mul]; rfl
        rw [ha0] at this
        exact cell_addr this
      refine ⟨a.block, a.off, cs', by rw [← hplain.1], hplain.2, hk, fun j hj => ?_⟩
      have h3 := hat j (by rw [hc, ← hlen']; exact hj)
      rw [List.getElem?_eq_getElem hj] at h3
      rw [← h3, hc, Deep.add_add]
      conv => rhs; rw [hplain.1]
      rw [add_at, Nat.add_assoc]
    · have h4 := hall _ (.inl rfl)
      simp only [List.length_map, List.length_range] at h4
      have h5 : l.length * P.bytesOf e ≤ (l.length + (m - l.length)) * P.bytesOf e := Nat.mul_le_mul_right _ (by omega)
      have h6 : reachBytes = 140737488351232 := by decide
      rw [h6] at h4
      omega
    · obtain ⟨i, hi1, rfl⟩ := List.getElem_of_mem hx
      exact (hl2 i _ (List.getElem?_eq_getElem hi1)).2

theorem opens_fields {lay : TypeId → Ty → Bool} (hlay : ∀ T t, lay T t = true → OpensT P T t) : ∀ (fs : List Field) (off : Nat) (t : Ty), fieldsOk P lay fs off t = true →
    ∀ {H : Type} (enc : TypeId × Value → H) (w : World) (base : Nat) (spare : Nat → Bool) (held : Bool) (n : Nat) (cs : List Value) (xs : List (DataW H × List MemPlace)),
    cs.length = t.sz → xs.length = fs.length → (∀ (i : Nat) (f : Field), fs[i]? = some f → DataW.trod enc P w base spare held n f.type ((cs.drop (f.offset - off)).take (P.cellsOf f.type)) = xs[i]?) →
    (DataW.weightsEach P (fs.map (·.type)) (xs.map (·.1))).all (· ≤ reachBytes) = true → ∃ a : t.den, En w (fun k => k < w.heap.size) t a cs ∧ Wf P t a := by
  intro fs
  induction fs with
  | nil =>
    intro off t h H enc w base spare held n cs xs hcs hxs ht hsz
    simp only [fieldsOk] at h
    split at h
    · exact ⟨(), List.eq_nil_of_length_eq_zero hcs, trivial⟩
    · cases h
  | cons f fs ih =>
    intro off t h H enc w base spare held n cs xs hcs hxs ht hsz
    simp only [fieldsOk] at h
    split at h
    · rename_i a b
      simp only [Bool.and_eq_true] at h
      obtain ⟨⟨⟨h1, h2⟩, h3⟩, h4⟩ := h
      have ho : f.offset = off := Nat.eq_of_beq_eq_true h1
      have hc : P.cellsOf f.type = a.sz := Nat.eq_of_beq_eq_true h3
      match xs, hxs with
      | x :: xs, hxs =>
        have hcs' : cs.length = a.sz + b.sz := hcs
        have h5 := ht 0 f rfl
        rw [ho, Nat.sub_self, List.drop_zero, hc] at h5
        simp only [List.getElem?_cons_zero] at h5
        simp only [List.map_cons, DataW.weightsEach, List.all_append, Bool.and_eq_true] at hsz
        obtain ⟨va, ha, hwa⟩ := hlay f.type a h2 enc w base spare held n _ x h5 hsz.1
        -- the fields behind it begin where it ends
        have hoffs : ∀ (fs : List Field) (off' : Nat) (b : Ty), fieldsOk P lay fs off' b = true → ∀ g ∈ fs, off' ≤ g.offset := by
          intro fs
          induction fs with
          | nil => intro off' b _ g hg; cases hg
          | cons f2 fs ih2 =>
            intro off' b hb g hg
            simp only [fieldsOk] at hb
            split at hb
            · rename_i a2 b2
              simp only [Bool.and_eq_true] at hb
              obtain ⟨⟨⟨q1, _⟩, _⟩, q4⟩ := hb
              rcases List.mem_cons.1 hg with rfl | hg
              · exact Nat.le_of_eq (Nat.eq_of_beq_eq_true q1).symm
              · have := ih2 _ b2 q4 g hg; omega
            · cases hb
        obtain ⟨vb, hb, hwb⟩ := ih (off + a.sz) b h4 enc w base spare held n (cs.drop a.sz) xs (by simp; omega) (by simpa using hxs) (fun i g hg => by
          have h6 := ht (i + 1) g (by simpa using hg)
          have h7 := hoffs fs _ b h4 g (List.mem_of_getElem? hg)
          rw [List.drop_drop, show a.sz + (g.offset - (off + a.sz)) = g.offset - off by omega]
          simpa using h6) hsz.2
        exact ⟨(va, vb), ⟨cs.take a.sz, cs.drop a.sz, (List.take_append_drop _ _).symm, ha, hb⟩, hwa, hwb⟩
    · cases h

theorem opens_arr {lay : TypeId → Ty → Bool} (hlay : ∀ T t, lay T t = true → OpensT P T t) {e : TypeId} : ∀ (m : Nat) (t : Ty), arrOk P lay e m t = true →
    ∀ {H : Type} (enc : TypeId × Value → H) (w : World) (base : Nat) (spare : Nat → Bool) (held : Bool) (n : Nat) (cs : List Value) (xs : List (DataW H × List MemPlace)),
    cs.length = t.sz → xs.length = m → (∀ (i : Nat), i < m → DataW.trod enc P w base spare held n e ((cs.drop (i * P.cellsOf e)).take (P.cellsOf e)) = xs[i]?) →
    (DataW.weightsAll P e (xs.map (·.1))).all (· ≤ reachBytes) = true → ∃ a : t.den, En w (fun k => k < w.heap.size) t a cs ∧ Wf P t a := by
  intro m
  induction m with
  | zero =>
    intro t h H enc w base spare held n cs xs hcs hxs ht hsz
    simp only [arrOk] at h
    split at h
    · exact ⟨(), List.eq_nil_of_length_eq_zero hcs, trivial⟩
    · cases h
  | succ m ih =>
    intro t h H enc w base spare held n cs xs hcs hxs ht hsz
    simp only [arrOk] at h
    split at h
    · rename_i a b
      simp only [Bool.and_eq_true] at h
      obtain ⟨⟨h2, h3⟩, h4⟩ := h
      have hc : P.cellsOf e = a.sz := Nat.eq_of_beq_eq_true h3
      match xs, hxs with
      | x :: xs, hxs =>
        have hcs' : cs.length = a.sz + b.sz := hcs
        have h5 := ht 0 (by omega)
        rw [Nat.zero_mul, List.drop_zero, hc] at h5
        simp only [List.getElem?_cons_zero] at h5
        simp only [List.map_cons, DataW.weightsAll, List.all_append, Bool.and_eq_true] at hsz
        obtain ⟨va, ha, hwa⟩ := hlay e a h2 enc w base spare held n _ x h5 hsz.1
        obtain ⟨vb, hb, hwb⟩ := ih b h4 enc w base spare held n (cs.drop a.sz) xs (by simp; omega) (by simpa using hxs) (fun i hi => by
          have h6 := ht (i + 1) (by omega)
          rw [List.drop_drop, ← hc, show P.cellsOf e + i * P.cellsOf e = (i + 1) * P.cellsOf e by rw [Nat.add_mul, Nat.one_mul, Nat.add_comm]]
          simpa using h6) hsz.2
        exact ⟨(va, vb), ⟨cs.take a.sz, cs.drop a.sz, (List.take_append_drop _ _).symm, ha, hb⟩, hwa, hwb⟩
    · cases h

theorem opens_ty : ∀ (n : Nat) (T : TypeId) (t : Ty), layOk P n T t = true → OpensT P T t
  | 0, _, _, h => by simp only [layOk] at h; cases h
  | n + 1, T, t, h => by
    simp only [layOk] at h
    split at h
    · rename_i hu
      split at h
      · intro enc w base spare held fuel cs x hx _
        obtain ⟨b, rfl, _⟩ := DataW.trod_bool hu hx
        exact ⟨b, rfl, trivial⟩
      · cases h
    · rename_i k hu
      split at h
      · split at h
        · rename_i hk; subst hk
          intro enc w base spare held fuel cs x hx _
          obtain ⟨m, rfl, _, hw⟩ := DataW.trod_int hu hx
          exact ⟨m, rfl, hw⟩
        · cases h
      · cases h
    · rename_i hu
      split at h
      · intro enc w base spare held fuel cs x hx hsz
        obtain ⟨s, rfl, rfl, _⟩ := DataW.trod_string hu hx
        refine ⟨s, rfl, ?_⟩
        simp only [DataW.weights, List.all_cons, List.all_nil, Bool.and_true, decide_eq_true_eq] at hsz
        show s.size ≤ _
        simpa [reachBytes] using hsz
      · cases h
    · rename_i e hu
      split at h
      · rename_i E t'
        simp only [Bool.and_eq_true] at h
        obtain ⟨⟨⟨h1, h2⟩, h3⟩, h4⟩ := h
        have he : e = E := Nat.eq_of_beq_eq_true h1
        subst he
        exact opens_slice hu (Nat.eq_of_beq_eq_true h3) (by simpa [Nat.blt_eq] using h4) (opens_ty n e t' h2)
      · cases h
    · rename_i fs hu
      simp only [Bool.and_eq_true] at h
      intro enc w base spare held fuel cs x hx hsz
      obtain ⟨xs, m, _, rfl, hlen, hxs, hf⟩ := DataW.trod_struct hu hx
      exact opens_fields (fun T t h => opens_ty n T t h) fs.toList 0 t h.1 enc w base spare held m cs xs (by rw [hlen]; exact Nat.eq_of_beq_eq_true h.2) (by simpa using hxs) (fun i f hi => by
        rw [Nat.sub_zero]
        exact hf i f (by simpa using hi)) (by simpa [DataW.weights, hu] using hsz)
    · rename_i m e hu
      simp only [Bool.and_eq_true] at h
      intro enc w base spare held fuel cs x hx hsz
      obtain ⟨xs, q, _, rfl, hlen, hxs, hf⟩ := DataW.trod_array hu hx
      exact opens_arr (fun T t h => opens_ty n T t h) m t h.1 enc w base spare held q cs xs (by rw [hlen]; exact Nat.eq_of_beq_eq_true h.2) hxs hf (by simpa [DataW.weights, hu] using hsz)
    · cases h

/-- An argument. -/
theorem opens_at {T : TypeId} {t : Ty} (ho : layOk P 20 T t = true) {H : Type} {enc : TypeId × Value → H} {w : World} {base : Nat} {spare : Nat → Bool} {held : Bool} {v : Value} {x : DataW H} {ps : List MemPlace}
    (h : DataW.Trod enc P w base spare held T v x ps) (hsz : (x.weights P T).all (· ≤ reachBytes) = true) : ∃ a : t.den, En w (fun k => k < w.heap.size) t a v.cells.toList ∧ Wf P t a := by
  obtain ⟨fuel, hf⟩ := h
  exact opens_ty 20 T t ho enc w base spare held fuel _ _ hf hsz

theorem weights_arg' {H : Type} {ts : List TypeId} {ds : List (DataW H)} {j : Nat} {t : TypeId} {d : DataW H} (h : (DataW.weightsEach P ts ds).all (· ≤ reachBytes) = true) (ht : ts[j]? = some t) (hd : ds[j]? = some d) : (d.weights P t).all (· ≤ reachBytes) = true :=
  List.all_eq_true.2 fun n hn => List.all_eq_true.1 h n (DataW.weights_mem_each ht hd n hn)

end Go.Proofs.Fr

/- A law: its arguments opened, its run, its arguments shut again. -/
namespace Go.Proofs.Fr
open Go Go.RowKit Go.ChangeShapes Go.WideShapes

def argsOk (P : Program) : List TypeId → List Ty → Bool
  | [], ts => match ts with
    | [] => true
    | _ => false
  | T :: Ts, ts => match ts with
    | t :: ts => layOk P 20 T t && P.readableRec T && Nat.blt T P.types.size && argsOk P Ts ts
    | _ => false

def WfA (P : Program) : (ts : List Ty) → dens (ts.map .v) → Prop
  | [], _ => True
  | t :: ts, x => Wf P t x.1 ∧ WfA P ts x.2

variable {P : Program}
theorem okWide_array {W : World} {r : Reach} {base : Nat} {T : TypeId} {v : Value} {m : Nat} {e : TypeId} (ht : P.underlying T = some (.array m e)) (h : Value.okWide P W r base T v) : ∃ cs, v = .agg cs ∧ cs.size = P.cellsOf T := by
  simp only [Value.okWide, ht] at h
  obtain ⟨cs, h1, h2, _⟩ := h
  exact ⟨cs, h1, h2⟩
theorem mkV_wide {T : TypeId} {t : Ty} (h : layOk P 20 T t = true) {W : World} {r : Reach} {base : Nat} {v : Value} (hv : Value.okWide P W r base T v) : v = mkV t.isAgg v.cells.toList := by
  unfold layOk at h
  split at h
  · rename_i hu
    split at h
    · obtain ⟨b, rfl⟩ := okWide_bool hu hv; rfl
    · cases h
  · rename_i k hu
    split at h
    · split at h
      · obtain ⟨n, rfl⟩ := okWide_int hu hv; rfl
      · cases h
    · cases h
  · rename_i hu
    split at h
    · obtain ⟨s, rfl⟩ := okWide_string hu hv; rfl
    · cases h
  · rename_i e hu
    split at h
    · obtain ⟨a, l, c, rfl⟩ := okWide_slice hu hv; rfl
    · cases h
  · rename_i fs hu
    obtain ⟨cs, rfl, _⟩ := okWide_struct hu hv
    simp only [Bool.and_eq_true] at h
    have : t.isAgg = true := by
      have h1 := h.1
      cases hfs : fs.toList with
      | nil => rw [hfs] at h1; simp only [fieldsOk] at h1; split at h1 <;> first | rfl | cases h1
      | cons f fs' => rw [hfs] at h1; simp only [fieldsOk] at h1; split at h1 <;> first | rfl | cases h1
    rw [this]
    simp [mkV, Value.cells]
  · rename_i m e hu
    obtain ⟨cs, rfl, _⟩ := okWide_array hu hv
    simp only [Bool.and_eq_true] at h
    have : t.isAgg = true := by
      have h1 := h.1
      cases m with
      | zero => simp only [arrOk] at h1; split at h1 <;> first | rfl | cases h1
      | succ m => simp only [arrOk] at h1; split at h1 <;> first | rfl | cases h1
    rw [this]
    simp [mkV, Value.cells]
  · cases h

theorem args_law (hl : laidOutB P = true) {H : Type} {enc : TypeId × Value → H} {W : World} : ∀ {Ts : List TypeId} {ts : List Ty} {vs : List Value} {ds : List (DataW H)} {p : List MemPlace}, argsOk P Ts ts = true →
    DataW.TrodAll enc P W 0 (fun _ => true) true Ts vs ds p → (∀ (j : Nat) t v, Ts[j]? = some t → vs[j]? = some v → Value.okWide P W .any 0 t v) →
    (∀ (j : Nat) t d, Ts[j]? = some t → ds[j]? = some d → (d.weights P t).all (· ≤ reachBytes) = true) →
    ∃ x : dens (ts.map .v), WfA P ts x ∧ AR W (fun k => k < W.heap.size) (ts.map .v) x vs [] ∧
      ∀ W', Below W.heap.size W W' → DataW.TrodAll enc P W' 0 (fun b => decide (b < W.heap.size)) true Ts vs ds p
  | [], ts, vs, ds, p, ho, hA, _, _ => by
    obtain ⟨rfl, rfl, rfl⟩ := trodAll_nil hA
    simp only [argsOk] at ho
    split at ho
    · exact ⟨(), trivial, ⟨rfl, rfl⟩, fun _ _ => trodAll_mk0⟩
    · cases ho
  | T :: Ts, ts, vs, ds, p, ho, hA, hv, hw => by
    obtain ⟨v, vs, d, ds, p, q, rfl, rfl, rfl, h0, r0⟩ := trodAll_cons hA
    simp only [argsOk] at ho
    split at ho
    · rename_i t ts
      simp only [Bool.and_eq_true] at ho
      obtain ⟨⟨⟨o1, o2⟩, o3⟩, o4⟩ := ho
      obtain ⟨x, hwx, hax, hbx⟩ := args_law hl o4 r0 (fun j t v h1 h2 => hv (j + 1) t v (by simpa using h1) (by simpa using h2)) (fun j t d h1 h2 => hw (j + 1) t d (by simpa using h1) (by simpa using h2))
      obtain ⟨a, ha, hwa⟩ := opens_at o1 h0 (hw 0 T d rfl rfl)
      refine ⟨(a, x), ⟨hwa, hwx⟩, ⟨v.cells.toList, vs, [], [], ?_, rfl, ⟨ha, rfl⟩, hax⟩, fun W' bel => trodAll_cons_mk ?_ (hbx W' bel)⟩
      · show v :: vs = mkV t.isAgg v.cells.toList :: vs
        rw [← mkV_wide o1 (hv 0 T v rfl rfl)]
      · have lt0 : ∀ x ∈ p, x.block < W.heap.size := by obtain ⟨m, hm⟩ := h0; exact DataW.trod_lt m _ _ _ hm
        exact Below.trod hl o2 (by simpa [Nat.blt_eq] using o3) h0 bel lt0
    · cases ho

theorem backs_v : ∀ (ts : List Ty), backs (ts.map .v) = []
  | [] => rfl
  | t :: ts => backs_v ts

theorem lvA_v : ∀ (ts : List Ty) (vs : List Value), lvA (ts.map .v) vs = []
  | [], _ => rfl
  | t :: ts, [] => rfl
  | t :: ts, v :: vs => lvA_v ts vs

/-- A law's run. -/
theorem law_run {f : FuncId} {ts : List Ty} {sem : dens (ts.map .v) → Option (dens ([K.v .bool] ++ backs (ts.map .v)))} (hs : Sound P f ⟨ts.map .v, [.v .bool], sem⟩) (hp : ∀ x, WfA P ts x → ∃ y, sem x = some y ∧ y.1 = true)
    {W : World} {args : Array Value} {x : dens (ts.map .v)} (hx : WfA P ts x) (ha : AR W (fun k => k < W.heap.size) (ts.map .v) x args.toList []) :
    Calls P f args W fun e w' => e = .returned (.bool true) ∧ Below W.heap.size W w' := by
  obtain ⟨y, hy, hy1⟩ := hp x hx
  have h := hs.run x y hy W args.toList _ [] (fun k h => h) ha List.nodup_nil (by simp)
  rw [Array.toArray_toList] at h
  refine Calls.mono h ?_
  rintro e w' ⟨rs, bs, ok', rfl, hrl, ho, _, _, _, hb⟩
  rw [lvA_v, List.append_nil] at ho
  obtain ⟨cs, rest, b1, b2, rfl, _, he, hn⟩ := ho
  have hr0 : rest = [] := by simpa using hrl
  subst hr0
  have e1 : cs = [.bool true] := by have := he.1; rw [show cs = _ from this, hy1]
  subst e1
  exact ⟨rfl, hb.below rfl⟩

end Go.Proofs.Fr
