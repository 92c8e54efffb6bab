/- A verified evaluator for a part of the language: each function of the program becomes a plain function, and its contract is proved once for all. -/
import Derived.Test.YtocloebloblodaaFrc
import Derived.SizedLaws
import Derived.ChangeSame
import Derived.Deep.Slices
import Derived.ProofKit
import Derived.OpenShut
import Derived.ChangeOld
import Derived.Carry
set_option linter.unusedVariables false
set_option linter.unusedSimpArgs false
/- A function does what its plain form says. -/
namespace Go.Proofs.Fr
open Go Go.RowKit
variable {R : Type} {P : Program} {T : Nat → List Sp} {nt : Nat} {ann : Nat → Option PK} {B : Bs} {fr : Nat → Prop} {s s' : S} {g g' : Nat → Value} {a : Act} {w : World} {H H' : Nat → Ob} {ok ok' : Nat → Prop} {Q : Exit → Act → World → Prop}

theorem pj_inj {vw : Nat → Vw} : ∀ (t : Ty) (x : t.den) (r : List L), pj vw t (inj t x ++ r) = some (x, r, [])
  | .int k, x, r => by simp [inj, pj]
  | .bool, x, r => by simp [inj, pj]
  | .str, x, r => by simp [inj, pj]
  | .sl E t, x, r => by simp [inj, pj, castL]
  | .nil, x, r => by simp [inj, pj]
  | .cons a b, x, r => by
    simp only [inj, List.append_assoc, pj, pj_inj a x.1 (inj b x.2 ++ r), pj_inj b x.2 r, List.nil_append]

def K.noMb : K → Bool
  | .mb .. => false
  | .bx _ c => c.noMb
  | .fn _ c => c.noMb
  | .cons a b => a.noMb && b.noMb
  | _ => true

/-- What is laid reads as what it was. -/
theorem pkC_mkC {H : Nat → Ob} : ∀ (k : K) (x : k.den) (n : Nat) (r : List L), k.noMb = true → (∀ (i : Nat) o, (mkC k x n).2[i]? = some o → H (n + i) = o) → ∃ lent, pkC H k ((mkC k x n).1 ++ r) = some (x, r, [], lent)
  | .v t, x, n, r, _, _ => ⟨[], by simp only [mkC, pkC, pj_inj]⟩
  | .own E t, x, n, r, _, h => by
    have h0 : H n = .row E t x := by simpa [mkC] using h 0 (.row E t x) rfl
    exact ⟨[n], by simp [mkC, pkC, h0, castL]⟩
  | .io E t, x, n, r, _, h => by
    have h0 : H n = .row E t x := by simpa [mkC] using h 0 (.row E t x) rfl
    exact ⟨[n], by simp [mkC, pkC, h0, castL]⟩
  | .bx T c, x, n, r, hm, h => by
    have h0 : H n = .box T (mkC c x (n + 1)).1 := by simpa [mkC] using h 0 _ rfl
    obtain ⟨lent, h1⟩ := pkC_mkC c x (n + 1) [] hm (fun i o hi => by have := h (i + 1) o (by simpa [mkC] using hi); rw [show n + 1 + i = n + (i + 1) by omega]; exact this)
    rw [List.append_nil] at h1
    exact ⟨n :: lent, by simp [mkC, pkC, h0, h1]⟩
  | .fn f c, x, n, r, hm, h => by
    cases hn : c.isNil with
    | true =>
      have := isNil_eq hn
      subst this
      exact ⟨[], by simp [mkC, pkC, K.isNil]⟩
    | false =>
      have h0 : H n = .clo f (mkC c x (n + 1)).1 := by simpa [mkC, hn] using h 0 (.clo f (mkC c x (n + 1)).1) (by simp [mkC, hn])
      obtain ⟨lent, h1⟩ := pkC_mkC c x (n + 1) [] hm (fun i o hi => by have := h (i + 1) o (by simpa [mkC, hn] using hi); rw [show n + 1 + i = n + (i + 1) by omega]; exact this)
      rw [List.append_nil] at h1
      exact ⟨lent, by simp [mkC, hn, pkC, h0, h1]⟩
  | .np, x, n, r, _, _ => ⟨[], by simp [mkC, pkC]⟩
  | .nl, x, n, r, _, _ => ⟨[], by simp [mkC, pkC]⟩
  | .mb .., x, n, r, hm, _ => by cases hm
  | .nil, x, n, r, _, _ => ⟨[], by simp [mkC, pkC]⟩
  | .cons a b, x, n, r, hm, h => by
    simp only [K.noMb, Bool.and_eq_true] at hm
    have hl := mkC_len a x.1 n
    obtain ⟨l1, h1⟩ := pkC_mkC a x.1 n ((mkC b x.2 (n + a.nob)).1 ++ r) hm.1 (fun i o hi => h i o (by simp only [mkC]; rw [List.getElem?_append_left (List.getElem?_eq_some_iff.1 hi).1]; exact hi))
    obtain ⟨l2, h2⟩ := pkC_mkC b x.2 (n + a.nob) r hm.2 (fun i o hi => by
      have := h (a.nob + i) o (by simp only [mkC]; rw [List.getElem?_append_right (by omega), hl, Nat.add_sub_cancel_left]; exact hi)
      rw [Nat.add_assoc]; exact this)
    exact ⟨l1 ++ l2, by simp only [mkC, List.append_assoc, pkC, h1, h2, List.nil_append]⟩

/-- A kind of a whole value. -/
def K.top (k : K) : Bool := k.noMb && match k with
  | .nil | .cons .. => false
  | _ => true

theorem injD_agg (t : Ty) (x : t.den) : (injD t x).isAgg = t.isAgg := by cases t <;> rfl

theorem pkI {H : Nat → Ob} (k : K) (hk : k.top = true) (x : k.den) (n : Nat) (h : ∀ (i : Nat) o, (mkC k x n).2[i]? = some o → H (n + i) = o) : (mkI k x n).1.isAgg = k.isAgg ∧ ∃ lent, pkC H k (mkI k x n).1.ls = some (x, [], [], lent) := by
  have hm : k.noMb = true := by unfold K.top at hk; simp only [Bool.and_eq_true] at hk; exact hk.1
  obtain ⟨lent, hp⟩ := pkC_mkC k x n [] hm h
  rw [List.append_nil] at hp
  cases k with
  | v t =>
    refine ⟨injD_agg t x, lent, ?_⟩
    rw [show (mkI (.v t) x n).1 = injD t x from rfl, injD_ls]; exact hp
  | own E t => exact ⟨rfl, lent, hp⟩
  | io E t => exact ⟨rfl, lent, hp⟩
  | bx T c => exact ⟨rfl, lent, hp⟩
  | fn f c =>
    refine ⟨rfl, lent, ?_⟩
    have : (mkI (.fn f c) x n).1.ls = (mkC (.fn f c) x n).1 := by
      simp only [mkI, mkC]
      cases c.isNil <;> rfl
    rw [this]; exact hp
  | np => exact ⟨rfl, lent, hp⟩
  | nl => exact ⟨rfl, lent, hp⟩
  | mb T c => cases hm
  | nil => cases hk
  | cons a b => simp [K.top] at hk

theorem start_pk : ∀ (ks : List K) (x : dens ks) (i : Nat) (e : Nat → D) (H : Nat → Ob) (nx : Nat), ks.all K.top = true →
    ∃ lent, pkA (fillS e H nx ((List.range' i ks.length).map .slot) ks x).2 ks ((List.range' i ks.length).map (fillS e H nx ((List.range' i ks.length).map .slot) ks x).1) = some (x, [], lent)
  | [], x, i, e, H, nx, _ => ⟨[], rfl⟩
  | k :: r, x, i, e, H, nx, ht => by
    simp only [List.all_cons, Bool.and_eq_true] at ht
    simp only [List.length_cons, List.range'_succ, List.map_cons, fillS]
    obtain ⟨l2, h2⟩ := start_pk r x.2 (i + 1) (upd e i (.v (mkI k x.1 nx).1)) (setObs H nx (mkI k x.1 nx).2) (nx + k.nob) ht.2
    have hslot : (fillS (upd e i (.v (mkI k x.1 nx).1)) (setObs H nx (mkI k x.1 nx).2) (nx + k.nob) ((List.range' (i + 1) r.length).map .slot) r x.2).1 i = .v (mkI k x.1 nx).1 := by
      rw [fill_slot _ _ _ _ (by simp [List.mem_range'_1]; omega), upd_same]
    have hob : ∀ (q : Nat) o, (mkC k x.1 nx).2[q]? = some o → (fillS (upd e i (.v (mkI k x.1 nx).1)) (setObs H nx (mkI k x.1 nx).2) (nx + k.nob) ((List.range' (i + 1) r.length).map .slot) r x.2).2 (nx + q) = o := by
      intro q o hq
      have hlt : q < k.nob := by rw [← mkC_len k x.1 nx]; exact (List.getElem?_eq_some_iff.1 hq).1
      rw [fill_keep _ _ _ _ (.inl (by omega)) (by rw [objT_slots]; simp)]
      exact (setObs_at _ H nx (nx + q)).1 q o (by rw [mkI_obs]; exact hq) rfl
    obtain ⟨hag, l1, h1⟩ := pkI k ht.1 x.1 nx hob
    rw [hslot]
    refine ⟨l1 ++ l2, ?_⟩
    simp only [pkA]
    rw [if_pos hag, h1]
    simp only
    rw [h2]
    rfl

theorem tgSlots_eq (n : Nat) : tgSlots n = (List.range' 0 n).map .slot := by unfold tgSlots; rw [List.range_eq_range']

theorem pkA_len {H : Nat → Ob} : ∀ {ks : List K} {ds : List D} {x : dens ks} {fro lent : List Nat}, pkA H ks ds = some (x, fro, lent) → ds.length = ks.length
  | [], ds, x, fro, lent, h => by
    simp only [pkA] at h
    split at h
    · rfl
    · cases h
  | k :: r, ds, x, fro, lent, h => by
    simp only [pkA] at h
    split at h
    · split at h
      · split at h
        · split at h
          · rename_i h2
            simp [pkA_len h2]
          · cases h
        · cases h
      · cases h
    · cases h

/-- Where a call begins. -/
theorem start_rel {f : Func} {ks : List K} (htop : ks.all K.top = true) {x : dens ks} {vs : List Value} {bs : List Nat} (hok : ∀ k, ok k → k < w.heap.size) (h : AR w ok ks x vs bs) (hnd : bs.Nodup) (hdis : ∀ b ∈ bs, ¬ ok b) :
    ∃ (B : Bs), B.W = w ∧ (∀ k, B.A k ↔ (ok k ∨ k ∈ bs ∨ w.heap.size ≤ k)) ∧ (∀ k, B.O k ↔ (k ∈ bs ∨ w.heap.size ≤ k)) ∧
      RelS B f.ntmps (startS ks x) B.g0 { tmps := vs.toArray ++ Array.replicate (f.ntmps - vs.toArray.size) undef, defers := [] } w ∧
      ∃ lv : List Nat, lentA (startS ks x).H ks ((List.range ks.length).map (startS ks x).e) = lv ∧ lv.length = (backs ks).length ∧ lvA ks vs = lv.map B.g0 ∧ (∀ (j : Nat) id k', lv[j]? = some id → (backs ks)[j]? = some k' → fits k' ((startS ks x).H id) ∧ k'.isOb = true) ∧ (∀ id ∈ lv, id < B.n0) ∧ B.sh0 = (fun id => shO ((startS ks x).H id)) := by
  obtain ⟨gs, hgl, hfill⟩ := fillS_R (tgs := tgSlots ks.length) (ks := ks) (x := x) (fun _ => .one .skip) (fun _ => .gone) 0 h (by simp [tgSlots]) (fun id hid => by unfold tgSlots at hid; rw [objT_slots] at hid; cases hid) (by unfold tgSlots; rw [objT_slots]; exact List.nodup_nil)
    (fun j id k h1 _ => by unfold tgSlots at h1; simp only [List.getElem?_map] at h1; cases e : (List.range ks.length)[j]? <;> rw [e] at h1 <;> simp at h1)
  have hvl := h.vlen
  have hget : ∀ j, (vs.toArray ++ Array.replicate (f.ntmps - vs.toArray.size) undef).getD j undef = vs.getD j undef := by
    intro j
    simp only [Array.getD_eq_getD_getElem?, List.getD_eq_getElem?_getD, Array.getElem?_append, List.size_toArray, List.getElem?_toArray]
    by_cases hj : j < vs.length
    · simp [hj]
    · simp only [hj, if_false]
      rw [List.getElem?_eq_none (by omega)]
      cases hq : (Array.replicate (f.ntmps - vs.length) undef)[j - vs.length]? with
      | none => rfl
      | some v =>
        obtain ⟨_, e⟩ := Array.getElem?_eq_some_iff.1 hq
        simp at e
        subst e; rfl
  let G : Nat → Value := fun id => gs.getD id undef
  have hF := hfill G (fun t => vs.getD t undef) (fun i v hi => by
      show gs.getD (0 + i) undef = v
      rw [Nat.zero_add, List.getD_eq_getElem?_getD, hi]; rfl)
    (fun j t v h1 h2 => by
      unfold tgSlots at h1
      by_cases hj : j < ks.length
      · simp [hj] at h1; subst h1; rw [List.getD_eq_getElem?_getD, h2]; rfl
      · simp [hj] at h1)
    (fun j id v h1 _ => by
      unfold tgSlots at h1
      by_cases hj : j < ks.length
      · simp [hj] at h1
      · simp [hj] at h1)
  let N := nobP (tgSlots ks.length) ks
  let F := fillS (fun _ => .one .skip) (fun _ => .gone) 0 (tgSlots ks.length) ks x
  have hF' : Filled G (fun t => vs.getD t undef) w ok (fun _ => .one .skip) 0 (tgSlots ks.length) ks bs F := hF
  have htch : ∀ id, tch (tgSlots ks.length) ks 0 id ↔ id < N := by
    intro id
    unfold tch tgSlots
    rw [objT_slots]
    simp only [List.not_mem_nil, or_false, Nat.zero_le, true_and, Nat.zero_add]
    exact Iff.rfl
  have hgone : ∀ id, N ≤ id → F.2 id = .gone := fun id hid => fill_keep _ _ _ _ (.inr (by rw [Nat.zero_add]; exact hid)) (by unfold tgSlots; rw [objT_slots]; simp)
  have hown : ∀ i k, owned G F.2 i = some k → i < N ∧ k ∈ bs := by
    intro i k hi
    by_cases hlt : i < N
    · exact ⟨hlt, hF'.own i k ((htch i).2 hlt) hi⟩
    · rw [owned_eq, hgone i (by omega)] at hi; cases hi
  let B : Bs := ⟨w, fun k => ok k ∨ k ∈ bs ∨ w.heap.size ≤ k, fun k => k ∈ bs ∨ w.heap.size ≤ k, fun _ => .inr, fun k hk => .inr hk, N, G, fun id => shO (F.2 id)⟩
  have hokn : ∀ k, ok k → okB B G F.2 w k := fun k hk => ⟨hok k hk, fun i hi => hdis k (hown i k hi).2 hk, .inl hk⟩
  have hrel : Rel B f.ntmps (fun j => N ≤ j) (startS ks x) G { tmps := vs.toArray ++ Array.replicate (f.ntmps - vs.toArray.size) undef, defers := [] } w := by
    refine ⟨fun t => ?_, fun t id hid hf => ?_, fun id => ?_, fun id j hj hf => ?_, fun i j k hi hj => ?_, fun i k hi => .inl (hown i k hi).2, ⟨rfl, rfl, rfl, Nat.le_refl _, fun _ _ _ => rfl⟩, hgone, ?_, rfl, fun id hid => ⟨by have : id < N := hid; omega, .inr ⟨rfl, rfl⟩⟩⟩
    · show DR G F.2 w _ (F.1 t) _
      rw [hget]
      rcases hF'.slot t with ⟨h1, h2⟩ | ⟨h1, _⟩
      · have ht : ¬ t < ks.length := fun hlt => h2 (List.mem_map.2 ⟨t, List.mem_range.2 hlt, rfl⟩)
        rw [h1, List.getD_eq_getElem?_getD, List.getElem?_eq_none (by omega)]
        rfl
      · exact DR.mono (fun k hk => ⟨hokn k hk, rfl⟩) (fun _ _ => .inr ⟨rfl, rfl⟩) h1
    · have hid' : id ∈ (F.1 t).ids := hid
      rcases hF'.slot t with ⟨h1, _⟩ | ⟨_, h2⟩
      · rw [h1] at hid'; simp [D.ids, D0.ids, D0.ls, L.ids] at hid'
      · have := h2 id hid'; have e : N = nobP (tgSlots ks.length) ks := rfl; omega
    · show OB G F.2 w _ id (F.2 id)
      by_cases hlt : id < N
      · exact OB.mono (fun k hk => ⟨hokn k hk, rfl⟩) rfl rfl (fun _ _ => rfl) (fun _ _ => .inr ⟨rfl, rfl⟩) (hF'.ob id ((htch id).2 hlt)).1
      · rw [hgone id (by omega)]; trivial
    · have hj' : j ∈ (F.2 id).kids := hj
      by_cases hlt : id < N
      · have := (hF'.ob id ((htch id).2 hlt)).2 j hj'; have e : N = nobP (tgSlots ks.length) ks := rfl; omega
      · rw [hgone id (by omega)] at hj'; cases hj'
    · exact hF'.inj hnd i j k ((htch i).2 (hown i k hi).1) ((htch j).2 (hown j k hj).1) hi hj
    · simp only [Array.size_append, List.size_toArray, Array.size_replicate]; omega
  refine ⟨B, rfl, fun _ => Iff.rfl, fun _ => Iff.rfl, hrel, _, rfl, ?_⟩
  obtain ⟨lent, hpk⟩ := start_pk ks x 0 (fun _ => .one .skip) (fun _ => .gone) 0 htop
  rw [← tgSlots_eq, ← List.range_eq_range'] at hpk
  have hds : All2 (DR G F.2 w (okB B G F.2 w)) ((List.range ks.length).map F.1) vs := by
    refine All2.of_get (by simp [hvl]) fun i hi hi' => ?_
    have := hrel.slots i
    simp only [hget] at this
    rw [List.getD_eq_getElem?_getD, List.getElem?_eq_getElem hi'] at this
    have h9 : DR G F.2 w (okB B G F.2 w) (F.1 i) vs[i] := this
    simpa using h9
  obtain ⟨q1, q2, q3, q4⟩ := lentA_R (Hv := F.2) (fun _ => .inr rfl) hrel.objs hpk hds
  refine ⟨q2, q3, q4, fun id hid => ?_, rfl⟩
  obtain ⟨j, hj, rfl⟩ := List.getElem_of_mem hid
  have hj2 : j < (backs ks).length := by rw [← q2]; exact hj
  have hfit := (q4 j _ _ (List.getElem?_eq_getElem hj) (List.getElem?_eq_getElem hj2)).1
  have fin : ∀ (kk : K) (id : Nat), fits kk (F.2 id) → id < N := by
    intro kk id hf
    by_cases hlt : id < N
    · exact hlt
    · exfalso
      rw [hgone id (Nat.le_of_not_lt hlt)] at hf
      unfold fits at hf
      split at hf
      · obtain ⟨_, e⟩ := hf; cases e
      · obtain ⟨_, e⟩ := hf; cases e
      · obtain ⟨_, e⟩ := hf; cases e
      · exact hf
  exact fin _ _ hfit

def resOp (tmps : Array Value) : ResultVar → Sem Value
  | .tmp t => pure (tmps.getD t undef)
  | .cell a t => do loadVar t (← asAddr (tmps.getD a undef))

theorem results_eq (fn : Func) (tmps : Array Value) : results fn tmps = (do let vs ← fn.results.mapM (resOp tmps); pure (if h : vs.size = 1 then vs[0] else .tuple vs)) := by
  unfold results
  congr 1

theorem res_one (hr : Rel B nt fr s g a w) {rv : ResultVar} {l : List ResultVar} {ds : List D} (h : resVals P s (rv :: l) = some ds) : ∃ d ds', ds = d :: ds' ∧ resVals P s l = some ds' ∧ ∃ v, (resOp a.tmps rv).run P w = .ok v w ∧ DR g s.H w (okB B g s.H w) d v := by
  cases rv with
  | tmp t =>
    simp only [resVals] at h
    split at h
    · rename_i ds' hds
      cases h
      exact ⟨_, ds', rfl, hds, _, rfl, hr.slots t⟩
    · cases h
  | cell t T0 =>
    simp only [resVals] at h
    split at h
    · rename_i l ti he hti
      split at h
      · rename_i ls off hc
        split at h
        · rename_i q hq
          split at h
          · rename_i d ds' hm hds
            cases h
            refine ⟨d, ds', rfl, hds, ?_⟩
            have h1 := hr.slots t
            rw [he] at h1
            obtain ⟨kk, base, cs, hva, ha, hcell⟩ := cellsAt_R (vw := fun j => (s.H j).vw) (ok' := fun _ => True) (fun id => .inr rfl) hr.objs h1 hc (fun _ _ => trivial)
            obtain ⟨hl, hq2, _⟩ := cut_R ha hq
            obtain ⟨hD, _⟩ := mkD_R hq2 hm
            have hlen : ((cs.drop off).take (if isAggD ti.desc then ti.size else 1)).length = if isAggD ti.desc then ti.size else 1 := by rw [← hq2.len, hl]
            refine ⟨_, ?_, hD⟩
            have hload := run_loadVar_cells (P := P) hti w kk (base + off) _ hlen (fun j u hj => by
              have hj' : cs[off + j]? = some u := by
                have hlt := (List.getElem?_eq_some_iff.1 hj).1
                rw [List.getElem?_take_of_lt (by simp only [List.length_take] at hlt; omega)] at hj
                simpa [List.getElem?_drop] using hj
              rw [Nat.add_assoc]; exact hcell _ _ hj')
            simp only [resOp, hva, asAddr, Sem.run_bind, Sem.run_pure, Result.andThen_ok, hload]
          · cases h
        · cases h
      · cases h
    · cases h

theorem res_run (hr : Rel B nt fr s g a w) : ∀ {l : List ResultVar} {ds : List D}, resVals P s l = some ds → ∃ vs, (l.mapM (resOp a.tmps)).run P w = .ok vs w ∧ All2 (DR g s.H w (okB B g s.H w)) ds vs
  | [], ds, h => by simp only [resVals] at h; cases h; exact ⟨[], rfl, trivial⟩
  | rv :: l, ds, h => by
    obtain ⟨d, ds', rfl, hds, v, hv, hd⟩ := res_one hr h
    obtain ⟨vs, h1, h2⟩ := res_run hr hds
    refine ⟨v :: vs, ?_, hd, h2⟩
    rw [List.mapM_cons]
    simp only [Sem.run_bind, hv, Sem.run_pure, Result.andThen_ok, h1]

theorem retV_eq (vs : List Value) : (if h : vs.toArray.size = 1 then vs.toArray[0] else .tuple vs.toArray) = retV vs := by
  match vs with
  | [] => rfl
  | [v] => rfl
  | v :: u :: r => simp [retV]

theorem idN_top {ins outs : List K} {sem : dens ins → Option (dens (outs ++ backs ins))} (h : ins.all K.top = true) : (Sp.mk ins outs sem).idN = none := by
  unfold Sp.idN
  split
  · rename_i n heq
    have e : ins = [.cons .nil (.bx n .nil)] := heq
    subst e
    simp [K.top] at h
  · rfl

theorem fn_sound (hT : ∀ f sp, sp ∈ T f → Sound P f sp) {f : FuncId} {fn : Func} (hf : P.funcs[f]? = some fn) (ent : ∀ args w, (callFunc f args).run P w = .ok (.enter f args) w) {ins outs : List K} (htop : ins.all K.top = true) :
    Sound P f ⟨ins, outs, fnSem P T ann fn ins outs⟩ := by
  refine ⟨ent, fun x y hxy w vs ok bs hok hargs hnd hdis => ?_, fun n hid => ?_⟩
  rotate_left
  · exfalso
    rw [idN_top htop] at hid
    cases hid
  have h : fnSem P T ann fn ins outs x = some y := hxy
  unfold fnSem at h
  split at h
  · cases h
  · rename_i c hb
    obtain ⟨B, hBW, hBA, hBO, hrel0, lv, hlv, hlvl, hlvv, hlvf, hlvn, hsh0⟩ := start_rel (f := fn) htop hok hargs hnd hdis
    refine calls_of_wp hf hb (ev_sound (B := B) hT none c 1 _ y _ hrel0 h fun ex s' g' a' w' hx hext hrel => ?_)
    have key : (match resVals P s' fn.results.toList with
      | none => none
      | some ds => match pkA s'.H (outs ++ backs ins) (ds ++ lentD ins (startS ins x)) with
        | some (y, fro, own) => bif lentOk fro own then some y else none
        | none => none) = some y → ∃ v, (results fn a'.tmps).run P w' = .ok v w' ∧ ∃ rs bs' ok', Ending.returned v = .returned (retV rs) ∧ rs.length = outs.length ∧ AR w' ok' (outs ++ backs ins) y (rs ++ lvA ins vs) bs' ∧ bs'.Nodup ∧ (∀ b ∈ bs', b ∈ bs ∨ w.heap.size ≤ b) ∧
          (∀ k, ok' k → (ok k ∨ k ∈ bs ∨ w.heap.size ≤ k) ∧ k < w'.heap.size ∧ k ∉ bs') ∧ BelowO (fun k => k ∈ bs ∨ w.heap.size ≤ k) w w' := by
      intro hk
      split at hk
      · cases hk
      · rename_i ds hds
        split at hk
        · rename_i y' fro own hpk
          cases hc : lentOk fro own with
          | false => rw [hc] at hk; cases hk
          | true =>
            rw [hc] at hk
            cases hk
            obtain ⟨hon, hof⟩ := lentOk_spec hc
            obtain ⟨rs, hrun, hrs⟩ := res_run (P := P) hrel hds
            -- what was lent is where it was
            have hld : All2 (DR g' s'.H w' (okB B g' s'.H w')) (lentD ins (startS ins x)) (lvA ins vs) := by
              rw [hlvv]
              unfold lentD
              rw [hlv]
              refine All2.of_get (by simp [hlvl]) fun j hj hj' => ?_
              simp only [List.length_map] at hj'
              have hj2 : j < (backs ins).length := by rw [← hlvl]; exact hj'
              have hfit := (hlvf j _ _ (List.getElem?_eq_getElem hj') (List.getElem?_eq_getElem hj2))
              have hkp := (hrel.kp lv[j] (hlvn _ (List.getElem_mem hj'))).2
              have hob := hrel0.objs lv[j]
              simp only [List.getElem_zipWith, List.getElem_map]
              have hst : shO ((startS ins x).H lv[j]) = B.sh0 lv[j] := by rw [hsh0]
              revert hfit
              generalize (backs ins)[j] = kk
              intro hfit
              cases kk with
              | own E t =>
                obtain ⟨⟨xs, e⟩, _⟩ := hfit
                rw [e] at hob hst
                obtain ⟨A, c, hv, _⟩ := RowO.slice_ hob
                refine ⟨by rw [hv]; rfl, fun t' n' hs => ?_⟩
                rcases hkp with h | ⟨_, h⟩
                · rw [h] at hs; cases hs
                · exact h.symm
              | bx T c =>
                obtain ⟨⟨ls, e⟩, _⟩ := hfit
                rw [e] at hob hst
                obtain ⟨kb, arr, hv, _⟩ := hob
                refine ⟨⟨_, hv⟩, fun q hs => ?_⟩
                rcases hkp with h | ⟨_, h⟩
                · rw [h] at hs; cases hs
                · exact ⟨kb, h.trans hv, hv⟩
              | _ => cases hfit.2
            have hall := hrs.app hld
            let bs' := own.filterMap (owned g' s'.H)
            have hbs : ∀ b ∈ bs', ∃ i ∈ own, owned g' s'.H i = some b := fun b hb' => by
              obtain ⟨i, hi, e⟩ := List.mem_filterMap.1 hb'
              exact ⟨i, hi, e⟩
            let ok' : Nat → Prop := fun k => (ok k ∨ k ∈ bs ∨ w.heap.size ≤ k) ∧ k < w'.heap.size ∧ k ∉ bs'
            have hAR : AR w' ok' (outs ++ backs ins) y (rs ++ lvA ins vs) bs' := pkA_R (Hv := s'.H) (fun _ => .inr rfl) hrel.objs (fun k hk => ⟨(hBA k).1 hk.2.2, hk.1, fun hm => by obtain ⟨i, _, e⟩ := hbs k hm; exact hk.2.1 i e⟩) hpk hall (fun id hid k hk => by
              refine ⟨.inr ((hBO k).1 (hrel.base id k hk)), OB.lt (hrel.objs id) rfl hk, fun hm => ?_⟩
              obtain ⟨i, hi, e⟩ := hbs k hm
              have := hrel.disj i id k e hk
              subst this
              exact hof i hi hid)
            have hbn : ∀ {l : List Nat}, l.Nodup → (l.filterMap (owned g' s'.H)).Nodup := by
              intro l
              induction l with
              | nil => intro _; exact List.nodup_nil
              | cons i l ih =>
                intro hn
                obtain ⟨n1, n2⟩ := List.nodup_cons.1 hn
                rw [List.filterMap_cons]
                cases e : owned g' s'.H i with
                | none => exact ih n2
                | some b =>
                  refine List.nodup_cons.2 ⟨fun hm => ?_, ih n2⟩
                  obtain ⟨j, hj, e'⟩ := List.mem_filterMap.1 hm
                  exact n1 ((hrel.disj i j b e e') ▸ hj)
            have hrl : rs.length = outs.length := by
              have h1 := pkA_len hpk
              have h2 := hrs.len
              have h3 : (lentD ins (startS ins x)).length = (backs ins).length := by unfold lentD; rw [hlv]; simp [hlvl]
              simp only [List.length_append] at h1
              omega
            refine ⟨retV rs, ?_, rs, bs', ok', rfl, hrl, hAR, hbn hon, fun b hb' => ?_, fun k hk => hk, ?_⟩
            · rw [results_eq, Array.mapM_eq_mapM_toList]
              simp only [Sem.run_bind, Sem.run_map, hrun, Result.andThen_ok, Sem.run_pure, retV_eq]
            · obtain ⟨i, _, e⟩ := hbs b hb'
              exact (hBO b).1 (hrel.base i b e)
            · have hfr := hrel.frm
              rw [hBW] at hfr
              exact ⟨hfr.os, hfr.tape, hfr.output, hfr.size, fun k h1 h2 => hfr.block k h1 fun h3 => h2 ((hBO k).1 h3)⟩
        · cases hk
    cases ex with
    | exit id => cases hx
    | goto l => cases hx
    | normal =>
      obtain ⟨v, h1, h2⟩ := key hx
      exact ⟨hrel.dfr, v, h1, h2⟩
    | ret =>
      obtain ⟨v, h1, h2⟩ := key hx
      exact ⟨hrel.dfr, v, h1, h2⟩

end Go.Proofs.Fr

/- Tables of contracts and of notes; what a function's name and body must be. -/
namespace Go.Proofs.Fr
open Go Go.RowKit

def tabT : List (Nat × List Sp) → Nat → List Sp
  | [], _ => []
  | x :: r, n => bif Nat.beq n x.1 then x.2 else tabT r n

def annT : List (Nat × PK) → Nat → Option PK
  | [], _ => none
  | x :: r, n => bif Nat.beq n x.1 then some x.2 else annT r n

variable {P : Program}
theorem tab_nil : ∀ f sp, sp ∈ tabT [] f → Sound P f sp := fun _ _ h => by cases h
theorem sps_nil {n : Nat} : ∀ sp ∈ ([] : List Sp), Sound P n sp := fun _ h => by cases h
theorem sps_cons {n : Nat} {s : Sp} {l : List Sp} (h : Sound P n s) (t : ∀ sp ∈ l, Sound P n sp) : ∀ sp ∈ s :: l, Sound P n sp := fun sp hm => by
  rcases List.mem_cons.1 hm with rfl | hm
  · exact h
  · exact t sp hm
theorem tab_cons {n : Nat} {s : List Sp} {l : List (Nat × List Sp)} (h : ∀ sp ∈ s, Sound P n sp) (t : ∀ f sp, sp ∈ tabT l f → Sound P f sp) : ∀ f sp, sp ∈ tabT ((n, s) :: l) f → Sound P f sp := by
  intro f sp hf
  simp only [tabT] at hf
  cases e : Nat.beq f n with
  | true =>
    rw [e] at hf
    have : f = n := Nat.eq_of_beq_eq_true e
    rw [this]; exact h sp hf
  | false => rw [e] at hf; exact t f sp hf

theorem ent_of {f : FuncId} {fn : Func} (hf : P.funcs[f]? = some fn) (hn : (fn.name == "runtime.NumGoroutine") = false) (hb : fn.body.isNone = false) : ∀ args w, (callFunc f args).run P w = .ok (.enter f args) w := by
  intro args w
  simp only [callFunc, Sem.run_bind, run_program, Result.andThen_ok, hf, hn, hb, Bool.false_eq_true, if_false, Sem.run_pure]

end Go.Proofs.Fr

/- What a law's arguments read as: plain values of their types. -/
namespace Go.Proofs.Fr
open Go Go.RowKit

/-- A plain value that an argument may be. -/
def Wf (P : Program) : (t : Ty) → t.den → Prop
  | .int k, n => (Lit.int k n).wf = true
  | .bool, _ => True
  | .str, s => s.size ≤ 140737488351232
  | .sl E t, xs => List.length (α := t.den) xs * P.bytesOf E ≤ 140737488351232 ∧ ∀ x ∈ (xs : List t.den), Wf P t x
  | .nil, _ => True
  | .cons a b, x => Wf P a x.1 ∧ Wf P b x.2

def fieldsOk (P : Program) (lay : TypeId → Ty → Bool) : List Field → Nat → Ty → Bool
  | [], _, t => match t with
    | .nil => true
    | _ => false
  | f :: fs, off, t => match t with
    | .cons a b => Nat.beq f.offset off && lay f.type a && Nat.beq (P.cellsOf f.type) a.sz && fieldsOk P lay fs (off + a.sz) b
    | _ => false

def arrOk (P : Program) (lay : TypeId → Ty → Bool) (e : TypeId) : Nat → Ty → Bool
  | 0, t => match t with
    | .nil => true
    | _ => false
  | n + 1, t => match t with
    | .cons a b => lay e a && Nat.beq (P.cellsOf e) a.sz && arrOk P lay e n b
    | _ => false

/-- The type's table says just this. -/
def layOk (P : Program) : Nat → TypeId → Ty → Bool
  | 0, _, _ => false
  | n + 1, T, t => match P.underlying T with
    | some .bool => match t with
      | .bool => true
      | _ => false
    | some (.int k) => match t with
      | .int k' => if k = k' then true else false
      | _ => false
    | some .string => match t with
      | .str => true
      | _ => false
    | some (.slice e) => match t with
      | .sl E t' => Nat.beq e E && layOk P n e t' && Nat.beq (P.cellsOf e) t'.sz && Nat.blt 0 t'.sz
      | _ => false
    | some (.struct fs) => fieldsOk P (layOk P n) fs.toList 0 t && Nat.beq (P.cellsOf T) t.sz
    | some (.array m e) => arrOk P (layOk P n) e m t && Nat.beq (P.cellsOf T) t.sz
    | _ => false

def OpensT (P : Program) (T : TypeId) (t : Ty) : Prop :=
  ∀ {H : Type} (enc : TypeId × Value → H) (w : World) (base : Nat) (spare : Nat → Bool) (held : Bool) (fuel : Nat) (cs : List Value) (x : DataW H × List MemPlace),
    DataW.trod enc P w base spare held fuel T cs = some x → (x.1.weights P T).all (· ≤ reachBytes) = true → ∃ a : t.den, En w (fun k => k < w.heap.size) t a cs ∧ Wf P t a

variable {P : Program}

theorem weightsAll_mem' {H : Type} {e : TypeId} : ∀ {ds : List (DataW H)} {d : DataW H}, d ∈ ds → ∀ n ∈ d.weights P e, n ∈ DataW.weightsAll P e ds
  | d0 :: ds, d, hd, n, hn => by
    simp only [DataW.weightsAll, List.mem_append]
    rcases List.mem_cons.1 hd with rfl | hd
    · exact .inl hn
    · exact .inr (weightsAll_mem' hd n hn)

theorem cell_addr {w : World} {a : Addr} {v : Value} (h : w.cell? a = some v) : a = ⟨a.block, a.off, none⟩ ∧ a.block < w.heap.size := by
  obtain ⟨k, o, sp⟩ := a
  refine ⟨?_, World.block_lt_of_cell? w _ h⟩
  unfold World.cell? at h
  split at h
  · cases sp with
    | none => rfl
    | some q => simp at h
  · cases h

theorem opens_slice {T e : TypeId} {t : Ty} (ht : P.underlying T = some (.slice e)) (hc : P.cellsOf e = t.sz) (h0 : 0 < t.sz) (he : OpensT P e t) : OpensT P T (.sl e t) := by
  intro H enc w base spare held fuel cs x h hsz
  rcases Deep.open_slice ht h with ⟨rfl, rfl⟩ | ⟨a, len, cap, m, n, D, Pl, rfl, hb, hl, hm, hmm, rfl, hi⟩
  · exact ⟨[], ⟨none, 0, rfl, Nat.le_refl _, fun i hi => by simp at hi⟩, by simp [Wf]⟩
  · have hlm : len ≤ m := by rw [hmm]; split <;> omega
    have hall := List.all_eq_true.1 hsz
    simp only [DataW.weights, ht, List.mem_cons, List.mem_append, decide_eq_true_eq] at hall
    have hpick : ∀ i, i < len → ∃ a1 : t.den, (∃ cs', w.cells? base (a.add (i * P.cellsOf e)) (P.cellsOf e) = some cs' ∧ En w (fun k => k < w.heap.size) t a1 cs') ∧ Wf P t a1 := by
      intro i hil
      obtain ⟨cs', hcs, htr⟩ := hi i (by omega)
      obtain ⟨a1, hk, hw⟩ := he enc w base spare held n cs' _ htr (List.all_eq_true.2 fun z hz => by
        have := hall z (.inr (.inl (weightsAll_mem' (List.mem_map.2 ⟨i, by simpa using hil, rfl⟩) z hz)))
        simpa using this)
      exact ⟨a1, ⟨cs', hcs, hk⟩, hw⟩
    have hlist : ∃ l : List t.den, l.length = len ∧ ∀ (i : Nat) (p : t.den), l[i]? = some p → (∃ cs', w.cells? base (a.add (i * P.cellsOf e)) (P.cellsOf e) = some cs' ∧ En w (fun k => k < w.heap.size) t p cs') ∧ Wf P t p := by
      have key : ∀ q, q ≤ len → ∃ l : List t.den, l.length = q ∧ ∀ (i : Nat) (p : t.den), l[i]? = some p → (∃ cs', w.cells? base (a.add (i * P.cellsOf e)) (P.cellsOf e) = some cs' ∧ En w (fun k => k < w.heap.size) t p cs') ∧ Wf P t p := by
        intro q
        induction q with
        | zero => intro _; exact ⟨[], rfl, fun i p hp => by simp at hp⟩
        | succ q ih =>
          intro hq
          obtain ⟨l, hlen, hl⟩ := ih (by omega)
          obtain ⟨a1, h1, h2⟩ := hpick q (by omega)
          refine ⟨l ++ [a1], by simp [hlen], fun i p hp => ?_⟩
          by_cases hiq : i < q
          · rw [List.getElem?_append_left (by omega)] at hp
            exact hl i p hp
          · have hi2 : i < (l ++ [a1]).length := (List.getElem?_eq_some_iff.1 hp).1
            have : i = q := by simp [hlen] at hi2; omega
            subst this
            rw [List.getElem?_append_right (by omega), hlen, Nat.sub_self] at hp
            simp only [List.getElem?_cons_zero, Option.some.injEq] at hp
            subst hp
            exact ⟨h1, h2⟩
      exact key len (Nat.le_refl _)
    obtain ⟨l, hlen, hl2⟩ := hlist
    subst hlen
    refine ⟨l, ⟨some a, cap, rfl, hl, fun i hi => ?_⟩, ?_, fun x hx => ?_⟩
    · obtain ⟨⟨cs', hcs, hk⟩, _⟩ := hl2 i _ (List.getElem?_eq_getElem hi)
      obtain ⟨_, hcl, hat⟩ := World.cells?_some hcs
      have hlen' : cs'.length = t.sz := hk.len
      -- the first element's first cell tells that the address is plain
      have hplain : a = ⟨a.block, a.off, none⟩ ∧ a.block < w.heap.size := by
        obtain ⟨⟨cs0, hcs0, hk0⟩, _⟩ := hl2 0 _ (List.getElem?_eq_getElem (show 0 < l.length by have : i < l.length := hi; omega))
        obtain ⟨_, hcl0, hat0⟩ := World.cells?_some hcs0
        have hl0 : 0 < cs0.length := by rw [hk0.len]; exact h0
        have := hat0 0 (by rw [hc]; exact h0)
        rw [List.getElem?_eq_getElem hl0] at this
        have ha0 : (a.add (0 * P.cellsOf e)).add 0 = a := by rw [Nat.zero_mul]; rfl
        rw [ha0] at this
        exact cell_addr this
      refine ⟨a.block, a.off, cs', by rw [← hplain.1], hplain.2, hk, fun j hj => ?_⟩
      have h3 := hat j (by rw [hc, ← hlen']; exact hj)
      rw [List.getElem?_eq_getElem hj] at h3
      rw [← h3, hc, Deep.add_add]
      conv => rhs; rw [hplain.1]
      rw [add_at, Nat.add_assoc]
    · have h4 := hall _ (.inl rfl)
      simp only [List.length_map, List.length_range] at h4
      have h5 : l.length * P.bytesOf e ≤ (l.length + (m - l.length)) * P.bytesOf e := Nat.mul_le_mul_right _ (by omega)
      have h6 : reachBytes = 140737488351232 := by decide
      rw [h6] at h4
      omega
    · obtain ⟨i, hi1, rfl⟩ := List.getElem_of_mem hx
      exact (hl2 i _ (List.getElem?_eq_getElem hi1)).2

theorem opens_fields {lay : TypeId → Ty → Bool} (hlay : ∀ T t, lay T t = true → OpensT P T t) : ∀ (fs : List Field) (off : Nat) (t : Ty), fieldsOk P lay fs off t = true →
    ∀ {H : Type} (enc : TypeId × Value → H) (w : World) (base : Nat) (spare : Nat → Bool) (held : Bool) (n : Nat) (cs : List Value) (xs : List (DataW H × List MemPlace)),
    cs.length = t.sz → xs.length = fs.length → (∀ (i : Nat) (f : Field), fs[i]? = some f → DataW.trod enc P w base spare held n f.type ((cs.drop (f.offset - off)).take (P.cellsOf f.type)) = xs[i]?) →
    (DataW.weightsEach P (fs.map (·.type)) (xs.map (·.1))).all (· ≤ reachBytes) = true → ∃ a : t.den, En w (fun k => k < w.heap.size) t a cs ∧ Wf P t a := by
  intro fs
  induction fs with
  | nil =>
    intro off t h H enc w base spare held n cs xs hcs hxs ht hsz
    simp only [fieldsOk] at h
    split at h
    · exact ⟨(), List.eq_nil_of_length_eq_zero hcs, trivial⟩
    · cases h
  | cons f fs ih =>
    intro off t h H enc w base spare held n cs xs hcs hxs ht hsz
    simp only [fieldsOk] at h
    split at h
    · rename_i a b
      simp only [Bool.and_eq_true] at h
      obtain ⟨⟨⟨h1, h2⟩, h3⟩, h4⟩ := h
      have ho : f.offset = off := Nat.eq_of_beq_eq_true h1
      have hc : P.cellsOf f.type = a.sz := Nat.eq_of_beq_eq_true h3
      match xs, hxs with
      | x :: xs, hxs =>
        have hcs' : cs.length = a.sz + b.sz := hcs
        have h5 := ht 0 f rfl
        rw [ho, Nat.sub_self, List.drop_zero, hc] at h5
        simp only [List.getElem?_cons_zero] at h5
        simp only [List.map_cons, DataW.weightsEach, List.all_append, Bool.and_eq_true] at hsz
        obtain ⟨va, ha, hwa⟩ := hlay f.type a h2 enc w base spare held n _ x h5 hsz.1
        -- the fields behind it begin where it ends
        have hoffs : ∀ (fs : List Field) (off' : Nat) (b : Ty), fieldsOk P lay fs off' b = true → ∀ g ∈ fs, off' ≤ g.offset := by
          intro fs
          induction fs with
          | nil => intro off' b _ g hg; cases hg
          | cons f2 fs ih2 =>
            intro off' b hb g hg
            simp only [fieldsOk] at hb
            split at hb
            · rename_i a2 b2
              simp only [Bool.and_eq_true] at hb
              obtain ⟨⟨⟨q1, _⟩, _⟩, q4⟩ := hb
              rcases List.mem_cons.1 hg with rfl | hg
              · exact Nat.le_of_eq (Nat.eq_of_beq_eq_true q1).symm
              · have := ih2 _ b2 q4 g hg; omega
            · cases hb
        obtain ⟨vb, hb, hwb⟩ := ih (off + a.sz) b h4 enc w base spare held n (cs.drop a.sz) xs (by simp; omega) (by simpa using hxs) (fun i g hg => by
          have h6 := ht (i + 1) g (by simpa using hg)
          have h7 := hoffs fs _ b h4 g (List.mem_of_getElem? hg)
          rw [List.drop_drop, show a.sz + (g.offset - (off + a.sz)) = g.offset - off by omega]
          simpa using h6) hsz.2
        exact ⟨(va, vb), ⟨cs.take a.sz, cs.drop a.sz, (List.take_append_drop _ _).symm, ha, hb⟩, hwa, hwb⟩
    · cases h

theorem opens_arr {lay : TypeId → Ty → Bool} (hlay : ∀ T t, lay T t = true → OpensT P T t) {e : TypeId} : ∀ (m : Nat) (t : Ty), arrOk P lay e m t = true →
    ∀ {H : Type} (enc : TypeId × Value → H) (w : World) (base : Nat) (spare : Nat → Bool) (held : Bool) (n : Nat) (cs : List Value) (xs : List (DataW H × List MemPlace)),
    cs.length = t.sz → xs.length = m → (∀ (i : Nat), i < m → DataW.trod enc P w base spare held n e ((cs.drop (i * P.cellsOf e)).take (P.cellsOf e)) = xs[i]?) →
    (DataW.weightsAll P e (xs.map (·.1))).all (· ≤ reachBytes) = true → ∃ a : t.den, En w (fun k => k < w.heap.size) t a cs ∧ Wf P t a := by
  intro m
  induction m with
  | zero =>
    intro t h H enc w base spare held n cs xs hcs hxs ht hsz
    simp only [arrOk] at h
    split at h
    · exact ⟨(), List.eq_nil_of_length_eq_zero hcs, trivial⟩
    · cases h
  | succ m ih =>
    intro t h H enc w base spare held n cs xs hcs hxs ht hsz
    simp only [arrOk] at h
    split at h
    · rename_i a b
      simp only [Bool.and_eq_true] at h
      obtain ⟨⟨h2, h3⟩, h4⟩ := h
      have hc : P.cellsOf e = a.sz := Nat.eq_of_beq_eq_true h3
      match xs, hxs with
      | x :: xs, hxs =>
        have hcs' : cs.length = a.sz + b.sz := hcs
        have h5 := ht 0 (by omega)
        rw [Nat.zero_mul, List.drop_zero, hc] at h5
        simp only [List.getElem?_cons_zero] at h5
        simp only [List.map_cons, DataW.weightsAll, List.all_append, Bool.and_eq_true] at hsz
        obtain ⟨va, ha, hwa⟩ := hlay e a h2 enc w base spare held n _ x h5 hsz.1
        obtain ⟨vb, hb, hwb⟩ := ih b h4 enc w base spare held n (cs.drop a.sz) xs (by simp; omega) (by simpa using hxs) (fun i hi => by
          have h6 := ht (i + 1) (by omega)
          rw [List.drop_drop, ← hc, show P.cellsOf e + i * P.cellsOf e = (i + 1) * P.cellsOf e by rw [Nat.add_mul, Nat.one_mul, Nat.add_comm]]
          simpa using h6) hsz.2
        exact ⟨(va, vb), ⟨cs.take a.sz, cs.drop a.sz, (List.take_append_drop _ _).symm, ha, hb⟩, hwa, hwb⟩
    · cases h

theorem opens_ty : ∀ (n : Nat) (T : TypeId) (t : Ty), layOk P n T t = true → OpensT P T t
  | 0, _, _, h => by simp only [layOk] at h; cases h
  | n + 1, T, t, h => by
    simp only [layOk] at h
    split at h
    · rename_i hu
      split at h
      · intro enc w base spare held fuel cs x hx _
        obtain ⟨b, rfl, _⟩ := DataW.trod_bool hu hx
        exact ⟨b, rfl, trivial⟩
      · cases h
    · rename_i k hu
      split at h
      · split at h
        · rename_i hk; subst hk
          intro enc w base spare held fuel cs x hx _
          obtain ⟨m, rfl, _, hw⟩ := DataW.trod_int hu hx
          exact ⟨m, rfl, hw⟩
        · cases h
      · cases h
    · rename_i hu
      split at h
      · intro enc w base spare held fuel cs x hx hsz
        obtain ⟨s, rfl, rfl, _⟩ := DataW.trod_string hu hx
        refine ⟨s, rfl, ?_⟩
        simp only [DataW.weights, List.all_cons, List.all_nil, Bool.and_true, decide_eq_true_eq] at hsz
        show s.size ≤ _
        simpa [reachBytes] using hsz
      · cases h
    · rename_i e hu
      split at h
      · rename_i E t'
        simp only [Bool.and_eq_true] at h
        obtain ⟨⟨⟨h1, h2⟩, h3⟩, h4⟩ := h
        have he : e = E := Nat.eq_of_beq_eq_true h1
        subst he
        exact opens_slice hu (Nat.eq_of_beq_eq_true h3) (by simpa [Nat.blt_eq] using h4) (opens_ty n e t' h2)
      · cases h
    · rename_i fs hu
      simp only [Bool.and_eq_true] at h
      intro enc w base spare held fuel cs x hx hsz
      obtain ⟨xs, m, _, rfl, hlen, hxs, hf⟩ := DataW.trod_struct hu hx
      exact opens_fields (fun T t h => opens_ty n T t h) fs.toList 0 t h.1 enc w base spare held m cs xs (by rw [hlen]; exact Nat.eq_of_beq_eq_true h.2) (by simpa using hxs) (fun i f hi => by
        rw [Nat.sub_zero]
        exact hf i f (by simpa using hi)) (by simpa [DataW.weights, hu] using hsz)
    · rename_i m e hu
      simp only [Bool.and_eq_true] at h
      intro enc w base spare held fuel cs x hx hsz
      obtain ⟨xs, q, _, rfl, hlen, hxs, hf⟩ := DataW.trod_array hu hx
      exact opens_arr (fun T t h => opens_ty n T t h) m t h.1 enc w base spare held q cs xs (by rw [hlen]; exact Nat.eq_of_beq_eq_true h.2) hxs hf (by simpa [DataW.weights, hu] using hsz)
    · cases h

/-- An argument. -/
theorem opens_at {T : TypeId} {t : Ty} (ho : layOk P 20 T t = true) {H : Type} {enc : TypeId × Value → H} {w : World} {base : Nat} {spare : Nat → Bool} {held : Bool} {v : Value} {x : DataW H} {ps : List MemPlace}
    (h : DataW.Trod enc P w base spare held T v x ps) (hsz : (x.weights P T).all (· ≤ reachBytes) = true) : ∃ a : t.den, En w (fun k => k < w.heap.size) t a v.cells.toList ∧ Wf P t a := by
  obtain ⟨fuel, hf⟩ := h
  exact opens_ty 20 T t ho enc w base spare held fuel _ _ hf hsz

theorem weights_arg' {H : Type} {ts : List TypeId} {ds : List (DataW H)} {j : Nat} {t : TypeId} {d : DataW H} (h : (DataW.weightsEach P ts ds).all (· ≤ reachBytes) = true) (ht : ts[j]? = some t) (hd : ds[j]? = some d) : (d.weights P t).all (· ≤ reachBytes) = true :=
  List.all_eq_true.2 fun n hn => List.all_eq_true.1 h n (DataW.weights_mem_each ht hd n hn)

end Go.Proofs.Fr

/- A law: its arguments opened, its run, its arguments shut again. -/
namespace Go.Proofs.Fr
open Go Go.RowKit Go.ChangeShapes Go.WideShapes

def argsOk (P : Program) : List TypeId → List Ty → Bool
  | [], ts => match ts with
    | [] => true
    | _ => false
  | T :: Ts, ts => match ts with
    | t :: ts => layOk P 20 T t && P.readableRec T && Nat.blt T P.types.size && argsOk P Ts ts
    | _ => false

def WfA (P : Program) : (ts : List Ty) → dens (ts.map .v) → Prop
  | [], _ => True
  | t :: ts, x => Wf P t x.1 ∧ WfA P ts x.2

variable {P : Program}
theorem okWide_array {W : World} {r : Reach} {base : Nat} {T : TypeId} {v : Value} {m : Nat} {e : TypeId} (ht : P.underlying T = some (.array m e)) (h : Value.okWide P W r base T v) : ∃ cs, v = .agg cs ∧ cs.size = P.cellsOf T := by
  simp only [Value.okWide, ht] at h
  obtain ⟨cs, h1, h2, _⟩ := h
  exact ⟨cs, h1, h2⟩
theorem mkV_wide {T : TypeId} {t : Ty} (h : layOk P 20 T t = true) {W : World} {r : Reach} {base : Nat} {v : Value} (hv : Value.okWide P W r base T v) : v = mkV t.isAgg v.cells.toList := by
  unfold layOk at h
  split at h
  · rename_i hu
    split at h
    · obtain ⟨b, rfl⟩ := okWide_bool hu hv; rfl
    · cases h
  · rename_i k hu
    split at h
    · split at h
      · obtain ⟨n, rfl⟩ := okWide_int hu hv; rfl
      · cases h
    · cases h
  · rename_i hu
    split at h
    · obtain ⟨s, rfl⟩ := okWide_string hu hv; rfl
    · cases h
  · rename_i e hu
    split at h
    · obtain ⟨a, l, c, rfl⟩ := okWide_slice hu hv; rfl
    · cases h
  · rename_i fs hu
    obtain ⟨cs, rfl, _⟩ := okWide_struct hu hv
    simp only [Bool.and_eq_true] at h
    have : t.isAgg = true := by
      have h1 := h.1
      cases hfs : fs.toList with
      | nil => rw [hfs] at h1; simp only [fieldsOk] at h1; split at h1 <;> first | rfl | cases h1
      | cons f fs' => rw [hfs] at h1; simp only [fieldsOk] at h1; split at h1 <;> first | rfl | cases h1
    rw [this]
    simp [mkV, Value.cells]
  · rename_i m e hu
    obtain ⟨cs, rfl, _⟩ := okWide_array hu hv
    simp only [Bool.and_eq_true] at h
    have : t.isAgg = true := by
      have h1 := h.1
      cases m with
      | zero => simp only [arrOk] at h1; split at h1 <;> first | rfl | cases h1
      | succ m => simp only [arrOk] at h1; split at h1 <;> first | rfl | cases h1
    rw [this]
    simp [mkV, Value.cells]
  · cases h

theorem args_law (hl : laidOutB P = true) {H : Type} {enc : TypeId × Value → H} {W : World} : ∀ {Ts : List TypeId} {ts : List Ty} {vs : List Value} {ds : List (DataW H)} {p : List MemPlace}, argsOk P Ts ts = true →
    DataW.TrodAll enc P W 0 (fun _ => true) true Ts vs ds p → (∀ (j : Nat) t v, Ts[j]? = some t → vs[j]? = some v → Value.okWide P W .any 0 t v) →
    (∀ (j : Nat) t d, Ts[j]? = some t → ds[j]? = some d → (d.weights P t).all (· ≤ reachBytes) = true) →
    ∃ x : dens (ts.map .v), WfA P ts x ∧ AR W (fun k => k < W.heap.size) (ts.map .v) x vs [] ∧
      ∀ W', Below W.heap.size W W' → DataW.TrodAll enc P W' 0 (fun b => decide (b < W.heap.size)) true Ts vs ds p
  | [], ts, vs, ds, p, ho, hA, _, _ => by
    obtain ⟨rfl, rfl, rfl⟩ := trodAll_nil hA
    simp only [argsOk] at ho
    split at ho
    · exact ⟨(), trivial, ⟨rfl, rfl⟩, fun _ _ => trodAll_mk0⟩
    · cases ho
  | T :: Ts, ts, vs, ds, p, ho, hA, hv, hw => by
    obtain ⟨v, vs, d, ds, p, q, rfl, rfl, rfl, h0, r0⟩ := trodAll_cons hA
    simp only [argsOk] at ho
    split at ho
    · rename_i t ts
      simp only [Bool.and_eq_true] at ho
      obtain ⟨⟨⟨o1, o2⟩, o3⟩, o4⟩ := ho
      obtain ⟨x, hwx, hax, hbx⟩ := args_law hl o4 r0 (fun j t v h1 h2 => hv (j + 1) t v (by simpa using h1) (by simpa using h2)) (fun j t d h1 h2 => hw (j + 1) t d (by simpa using h1) (by simpa using h2))
      obtain ⟨a, ha, hwa⟩ := opens_at o1 h0 (hw 0 T d rfl rfl)
      refine ⟨(a, x), ⟨hwa, hwx⟩, ⟨v.cells.toList, vs, [], [], ?_, rfl, ⟨ha, rfl⟩, hax⟩, fun W' bel => trodAll_cons_mk ?_ (hbx W' bel)⟩
      · show v :: vs = mkV t.isAgg v.cells.toList :: vs
        rw [← mkV_wide o1 (hv 0 T v rfl rfl)]
      · have lt0 : ∀ x ∈ p, x.block < W.heap.size := by obtain ⟨m, hm⟩ := h0; exact DataW.trod_lt m _ _ _ hm
        exact Below.trod hl o2 (by simpa [Nat.blt_eq] using o3) h0 bel lt0
    · cases ho

theorem backs_v : ∀ (ts : List Ty), backs (ts.map .v) = []
  | [] => rfl
  | t :: ts => backs_v ts

theorem lvA_v : ∀ (ts : List Ty) (vs : List Value), lvA (ts.map .v) vs = []
  | [], _ => rfl
  | t :: ts, [] => rfl
  | t :: ts, v :: vs => lvA_v ts vs

/-- A law's run. -/
theorem law_run {f : FuncId} {ts : List Ty} {sem : dens (ts.map .v) → Option (dens ([K.v .bool] ++ backs (ts.map .v)))} (hs : Sound P f ⟨ts.map .v, [.v .bool], sem⟩) (hp : ∀ x, WfA P ts x → ∃ y, sem x = some y ∧ y.1 = true)
    {W : World} {args : Array Value} {x : dens (ts.map .v)} (hx : WfA P ts x) (ha : AR W (fun k => k < W.heap.size) (ts.map .v) x args.toList []) :
    Calls P f args W fun e w' => e = .returned (.bool true) ∧ Below W.heap.size W w' := by
  obtain ⟨y, hy, hy1⟩ := hp x hx
  have h := hs.run x y hy W args.toList _ [] (fun k h => h) ha List.nodup_nil (by simp)
  rw [Array.toArray_toList] at h
  refine Calls.mono h ?_
  rintro e w' ⟨rs, bs, ok', rfl, hrl, ho, _, _, _, hb⟩
  rw [lvA_v, List.append_nil] at ho
  obtain ⟨cs, rest, b1, b2, rfl, _, he, hn⟩ := ho
  have hr0 : rest = [] := by simpa using hrl
  subst hr0
  have e1 : cs = [.bool true] := by have := he.1; rw [show cs = _ from this, hy1]
  subst e1
  exact ⟨rfl, hb.below rfl⟩

end Go.Proofs.Fr
