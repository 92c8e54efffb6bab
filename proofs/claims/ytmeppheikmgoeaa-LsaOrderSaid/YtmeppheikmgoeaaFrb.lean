/- A verified evaluator for a part of the language: each function of the program becomes a plain function, and its contract is proved once for all. -/
import Derived.Test.YtmeppheikmgoeaaFra
import Derived.Maps.AppendAt
import Derived.Orders
import Derived.LoopN
import Derived.SizedLaws
import Derived.ChangeSame
import Derived.Deep.Slices
import Derived.ProofKit
import Derived.OpenShut
import Derived.ChangeOld
import Derived.Carry
/- All operations that write nothing. -/
namespace Go.Proofs.Fr
open Go Go.RowKit

variable {P : Program} {B : Bs} {nt : Nat} {fr : Nat → Prop} {s : S} {g : Nat → Value} {a : Act} {w w' : World} {R : Type} {H : Nat → Ob} {ok ok' : Nat → Prop}
section
variable {o : Oper} {T : Nat → Option Sp} {id0 : Nat} {k : D → List Ob → List Nat → Option R} {r : R} {vw : Nat → Vw}

theorem v_slice (hvw : ∀ id, vw id = .no ∨ vw id = (s.H id).vw) (hr : Rel B nt fr s g a w) (hfr : ∀ j, id0 ≤ j → j < id0 + 8 → fr j) (hd : dstOk nt o.dst = true) {T0 : TypeId} {x : Operand} {lo hi mx : Option Operand} (ho : o.op = .slice T0 x lo hi mx)
    (hv : valK P T id0 vw (.slice T0 x lo hi mx) (evD s.e x :: (lo.toList ++ hi.toList ++ mx.toList).map (evD s.e)) k = some r) : Goal P B nt fr id0 s a w o k r := by
  cases hx : evD s.e x with
  | tup q => rw [hx] at hv; simp only [valK] at hv; cases hv
  | v d => cases d with
    | agg ls => rw [hx] at hv; simp only [valK] at hv; cases hv
    | one l0 =>
      rw [hx] at hv
      cases mx with
      | some m => simp only [valK] at hv; cases hv
      | none =>
        simp only [valK, Option.toList_none, List.append_nil] at hv
        split at hv
        · cases hv
        · rename_i l h? hlh
          split at hv
          · rename_i st e1
            split at hv
            · rename_i hb
              obtain ⟨hb0, hb1, hb2⟩ := hb
              obtain ⟨h1, h2⟩ := lhOf_R hr hlh st.size
              exact v_sliceStr hr hd ho hx e1 h1 h2 hb0 hb1 hb2 hv
            · cases hv
          · rename_i e E t xs e1
            split at hv
            · rename_i hs
              split at hv
              · rename_i hb
                obtain ⟨hb0, hb1, hb2⟩ := hb
                obtain ⟨h1, h2⟩ := lhOf_R hr hlh xs.length
                exact v_sliceRow hvw hr hfr hd ho hx e1 hs h1 h2 hb0 hb1 hb2 (.inl ⟨rfl, rfl⟩) hv
              · cases hv
            · cases hv
          · rename_i e id e1
            split at hv
            · rename_i E t xs hvi
              split at hv
              · rename_i hs
                split at hv
                · rename_i hb
                  obtain ⟨hb0, hb1, hb2⟩ := hb
                  obtain ⟨h1, h2⟩ := lhOf_R hr hlh xs.length
                  exact v_sliceRow hvw hr hfr hd ho hx e1 hs h1 h2 hb0 hb1 hb2 (.inr ⟨id, rfl, hvi, rfl⟩) hv
                · cases hv
              · cases hv
            · cases hv
          · rename_i e e1
            split at hv
            · rename_i hti
              obtain ⟨ti, hti⟩ := Option.isSome_iff_exists.1 hti
              split at hv
              · rename_i hb
                obtain ⟨hb0, hb1, hb2⟩ := hb
                obtain ⟨h1, h2⟩ := lhOf_R hr hlh 0
                exact v_sliceNil hr hd ho hx e1 hti h1 h2 hb0 hb1 hb2 hv
              · cases hv
            · cases hv
          · cases hv

theorem valK_sound (hT : ∀ f sp, T f = some sp → Sound P f sp) (hvw : ∀ id, vw id = .no ∨ vw id = (s.H id).vw) (hr : Rel B nt fr s g a w) (hfr : ∀ j, id0 ≤ j → j < id0 + 8 → fr j) (hd : dstOk nt o.dst = true)
    (hv : valK P T id0 vw o.op (o.op.operands.toList.map (evD s.e)) k = some r) : Goal P B nt fr id0 s a w o k r := by
  generalize ho : o.op = op at hv
  cases op with
  | move x => exact v_move hr hd (.inl ho) hv
  | assign x => exact v_move hr hd (.inr ho) hv
  | pick c x y =>
    simp only [Op.operands, List.map_cons, List.map_nil] at hv
    cases hc : evD s.e c with
    | tup q => rw [hc] at hv; simp only [valK] at hv; cases hv
    | v d => cases d with
      | agg q => rw [hc] at hv; simp only [valK] at hv; cases hv
      | one l =>
        rw [hc] at hv
        cases l <;> first | (simp only [valK] at hv; cases hv; done) | skip
        exact v_pick hr hd ho hc hv
  | build T0 parts =>
    simp only [Op.operands, valK] at hv
    split at hv
    · rename_i ps hps
      split at hv
      · rename_i ls hl
        exact v_build hr hd ho hps hl hv
      · cases hv
    · cases hv
  | buildSlice T0 len parts =>
    simp only [Op.operands, valK] at hv
    split at hv
    · rename_i e ps hT0 hps
      split at hv
      · rename_i ti t hti ht
        split at hv
        · rename_i zl hz
          split at hv
          · rename_i hc
            obtain ⟨h1, h2, h3⟩ := hc
            split at hv
            · rename_i ls hf
              split at hv
              · rename_i xs ids hp
                exact v_buildSlice hvw hr hfr hd ho hps hT0 hti hz h1 h2 h3 hf hp hv
              · cases hv
            · cases hv
          · cases hv
        · cases hv
      · cases hv
    · cases hv
  | box T0 x =>
    simp only [Op.operands, List.map_cons, List.map_nil] at hv
    cases hx : evD s.e x with
    | tup q => rw [hx] at hv; simp only [valK] at hv; cases hv
    | v d =>
      rw [hx] at hv
      simp only [valK] at hv
      split at hv
      · split at hv
        · rename_i hc
          exact v_box hr hfr hd ho hx hc.2 hv
        · cases hv
      · cases hv
  | alloc T0 =>
    simp only [Op.operands, List.map_nil, valK] at hv
    split at hv
    · rename_i ti hti
      split at hv
      · rename_i zl hz
        exact v_alloc hr hfr hd ho hti hz hv
      · cases hv
    · cases hv
  | load T0 x =>
    simp only [Op.operands, List.map_cons, List.map_nil] at hv
    cases hx : evD s.e x with
    | tup q => rw [hx] at hv; simp only [valK] at hv; cases hv
    | v d => cases d with
      | agg q => rw [hx] at hv; simp only [valK] at hv; cases hv
      | one l =>
        rw [hx] at hv
        simp only [valK] at hv
        split at hv
        · rename_i ti ls off hti hc
          split at hv
          · rename_i q hq
            split at hv
            · rename_i d hm
              exact v_load hvw hr hd ho hx hti hc hq hm hv
            · cases hv
          · cases hv
        · cases hv
  | nilCheck x =>
    simp only [Op.operands, List.map_cons, List.map_nil] at hv
    cases hx : evD s.e x with
    | tup q => rw [hx] at hv; simp only [valK] at hv; cases hv
    | v d => cases d with
      | agg q => rw [hx] at hv; simp only [valK] at hv; cases hv
      | one l =>
        rw [hx] at hv
        simp only [valK] at hv
        split at hv
        · rename_i hl
          exact v_nilCheck hvw hr hd ho hx (.inl hl) hv
        · split at hv
          · exact v_nilCheck hvw hr hd ho hx (.inr ⟨_, _, rfl⟩) hv
          · cases hv
  | binOp op xT x y yT => exact v_bin hr hd ho hv
  | unOp op xT x => exact v_un hr hd ho hv
  | convert src dst x => exact v_conv hvw hr hfr hd ho hv
  | makeSlice T0 x y =>
    simp only [Op.operands, List.map_cons, List.map_nil] at hv
    cases e1 : evD s.e x with
    | tup q => rw [e1] at hv; simp only [valK] at hv; cases hv
    | v d => cases d with
      | agg q => rw [e1] at hv; simp only [valK] at hv; cases hv
      | one l =>
        rw [e1] at hv
        cases l <;> first | (simp only [valK] at hv; cases hv; done) | skip
        rename_i kl l
        cases kl <;> first | (simp only [valK] at hv; cases hv; done) | skip
        cases e2 : evD s.e y with
        | tup q => rw [e2] at hv; simp only [valK] at hv; cases hv
        | v d => cases d with
          | agg q => rw [e2] at hv; simp only [valK] at hv; cases hv
          | one q =>
            rw [e2] at hv
            cases q <;> first | (simp only [valK] at hv; cases hv; done) | skip
            rename_i kc c
            cases kc <;> first | (simp only [valK] at hv; cases hv; done) | skip
            simp only [valK] at hv
            split at hv
            · rename_i e hT0
              split at hv
              · rename_i ti t hti ht
                split at hv
                · rename_i zl hz
                  split at hv
                  · rename_i z hp
                    split at hv
                    · rename_i hc
                      split at hv
                      · rename_i hc2
                        exact v_makeSlice hr hfr hd ho e1 e2 hT0 hti hz hp hc.1 hc.2.1 hc.2.2 hc2.1 hc2.2.1 hc2.2.2 hv
                      · cases hv
                    · cases hv
                  · cases hv
                · cases hv
              · cases hv
            · cases hv
  | slice T0 x lo hi mx =>
    refine v_slice (T := T) hvw hr hfr hd ho ?_
    simpa [Op.operands] using hv
  | fieldAddr T0 x f =>
    simp only [Op.operands, List.map_cons, List.map_nil] at hv
    cases hx : evD s.e x with
    | tup q => rw [hx] at hv; simp only [valK] at hv; cases hv
    | v d => cases d with
      | agg q => rw [hx] at hv; simp only [valK] at hv; cases hv
      | one l =>
        rw [hx] at hv
        simp only [valK] at hv
        split at hv
        · rename_i fs hT0
          split at hv
          · rename_i fd hf
            split at hv
            · rename_i ti hti
              split at hv
              · cases hv
              · rename_i h0
                split at hv
                · rename_i hlv
                  split at hv
                  · rename_i l' hl
                    exact v_fieldAddr hr hd ho hx hT0 hf hti h0 hl hv hvw hlv
                  · cases hv
                · cases hv
            · cases hv
          · cases hv
        · cases hv
  | field T0 x f =>
    simp only [Op.operands, List.map_cons, List.map_nil] at hv
    cases hx : evD s.e x with
    | tup q => rw [hx] at hv; simp only [valK] at hv; cases hv
    | v d => cases d with
      | one q => rw [hx] at hv; simp only [valK] at hv; cases hv
      | agg ls =>
        rw [hx] at hv
        simp only [valK] at hv
        split at hv
        · rename_i fs hT0
          split at hv
          · rename_i fd hf
            split at hv
            · rename_i ti hti
              split at hv
              · rename_i q hq
                split at hv
                · rename_i d hm
                  exact v_field hr hd ho hx hT0 hf hti hq hm hv
                · cases hv
              · cases hv
            · cases hv
          · cases hv
        · cases hv
  | indexAddr T0 x y =>
    simp only [Op.operands, List.map_cons, List.map_nil] at hv
    cases e1 : evD s.e x with
    | tup q => rw [e1] at hv; simp only [valK] at hv; cases hv
    | v d => cases d with
      | agg q => rw [e1] at hv; simp only [valK] at hv; cases hv
      | one l =>
        rw [e1] at hv
        cases e2 : evD s.e y with
        | tup q => rw [e2] at hv; simp only [valK] at hv; cases hv
        | v d => cases d with
          | agg q => rw [e2] at hv; simp only [valK] at hv; cases hv
          | one q =>
            rw [e2] at hv
            cases q <;> first | (simp only [valK] at hv; cases hv; done) | skip
            rename_i kk n
            simp only [valK] at hv
            split at hv
            · rename_i e E t xs hT0
              split at hv
              · rename_i hs
                split at hv
                · rename_i hb
                  exact v_indexAddr hvw hr hd ho e1 e2 hT0 hs hb.1 hb.2 (.inl ⟨rfl, rfl⟩) hv
                · cases hv
              · cases hv
            · rename_i e id hT0
              split at hv
              · rename_i E t xs hvi
                split at hv
                · rename_i hs
                  split at hv
                  · rename_i hb
                    exact v_indexAddr hvw hr hd ho e1 e2 hT0 hs hb.1 hb.2 (.inr ⟨id, rfl, hvi, rfl⟩) hv
                  · cases hv
                · cases hv
              · cases hv
            · cases hv
  | index T0 x y =>
    simp only [Op.operands, List.map_cons, List.map_nil] at hv
    cases e1 : evD s.e x with
    | tup q => rw [e1] at hv; simp only [valK] at hv; cases hv
    | v d => cases d with
      | agg q => rw [e1] at hv; simp only [valK] at hv; cases hv
      | one l =>
        rw [e1] at hv
        cases l <;> first | (simp only [valK] at hv; cases hv; done) | skip
        cases e2 : evD s.e y with
        | tup q => rw [e2] at hv; simp only [valK] at hv; cases hv
        | v d => cases d with
          | agg q => rw [e2] at hv; simp only [valK] at hv; cases hv
          | one q =>
            rw [e2] at hv
            cases q <;> first | (simp only [valK] at hv; cases hv; done) | skip
            simp only [valK] at hv
            split at hv
            · rename_i hT0
              split at hv
              · rename_i hb
                exact v_index hr hd ho e1 e2 hT0 hb.1 hb.2 hv
              · cases hv
            · cases hv
  | extract x i =>
    simp only [Op.operands, List.map_cons, List.map_nil] at hv
    cases hx : evD s.e x with
    | v q => rw [hx] at hv; simp only [valK] at hv; cases hv
    | tup es =>
      rw [hx] at hv
      simp only [valK] at hv
      split at hv
      · rename_i d he
        exact v_extract hr hd ho hx he hv
      · cases hv
  | makeFunc fn first caps =>
    cases fn <;> first | (simp only [valK] at hv; cases hv; done) | skip
    rename_i f
    simp only [valK] at hv
    split at hv
    · rename_i h1
      have e1 : first = #[] := by
        have := (d0s_R h1).1
        simp only [Op.operands, List.length_nil] at this
        have h3 : (first ++ caps).toList.length = 0 := this.symm
        simp at h3
        exact h3.1
      have e2 : caps = #[] := by
        have := (d0s_R h1).1
        simp only [Op.operands, List.length_nil] at this
        have h3 : (first ++ caps).toList.length = 0 := this.symm
        simp at h3
        exact h3.2
      subst e1; subst e2
      exact v_makeFunc hr hd ho hv
    · cases hv
  | call c =>
    obtain ⟨callee, args, tys⟩ := c
    cases callee with
    | invoke q m => simp only [valK] at hv; cases hv
    | builtin b =>
      by_cases hlen : b = .len
      · subst hlen
        simp only [Op.operands, Call.operands, Array.empty_append] at hv
        cases hargs : args.toList with
        | nil => rw [hargs] at hv; simp only [List.map_nil, valK] at hv; cases hv
        | cons x rest =>
          rw [hargs] at hv
          cases rest with
          | cons y rest => simp only [List.map_cons] at hv; cases hx : evD s.e x with
            | tup q => rw [hx] at hv; simp only [valK] at hv; cases hv
            | v d => cases d <;> (rw [hx] at hv; simp only [valK] at hv; cases hv)
          | nil =>
            have ha : args = #[x] := by apply Array.ext'; rw [hargs]
            subst ha
            simp only [List.map_cons, List.map_nil] at hv
            cases hx : evD s.e x with
            | tup q => rw [hx] at hv; simp only [valK] at hv; cases hv
            | v d => cases d with
              | agg q => rw [hx] at hv; simp only [valK] at hv; cases hv
              | one l =>
                rw [hx] at hv
                simp only [valK] at hv
                split at hv
                · rename_i hT0
                  split at hv
                  · rename_i n hl
                    exact v_len hvw hr hd ho hx hl hT0 hv
                  · cases hv
                · cases hv
      by_cases hmax : b = .max
      · subst hmax
        simp only [Op.operands, Call.operands, Array.empty_append] at hv
        rcases hargs : args.toList with _ | ⟨x, _ | ⟨y, _ | ⟨z, rest⟩⟩⟩
        · rw [hargs] at hv; simp only [List.map_nil, valK] at hv; cases hv
        · rw [hargs] at hv; simp only [List.map_cons, List.map_nil] at hv
          rcases hx : evD s.e x with ((l | q) | q) <;> rw [hx] at hv
          · cases l <;> (simp only [valK] at hv; cases hv)
          · simp only [valK] at hv; cases hv
          · simp only [valK] at hv; cases hv
        · rw [hargs] at hv
          have ha : args = #[x, y] := by apply Array.ext'; rw [hargs]
          subst ha
          simp only [List.map_cons, List.map_nil] at hv
          rcases hx : evD s.e x with ((l | q) | q)
          · rcases hy : evD s.e y with ((l' | q) | q)
            · rw [hx, hy] at hv
              cases l <;> first | (simp only [valK] at hv; cases hv; done) | skip
              cases l' <;> first | (simp only [valK] at hv; cases hv; done) | skip
              simp only [valK] at hv
              split at hv
              · rename_i hk; subst hk
                exact v_max hr hd ho hx hy hv
              · cases hv
            · rw [hx, hy] at hv; cases l <;> (simp only [valK] at hv; cases hv)
            · rw [hx, hy] at hv; cases l <;> (simp only [valK] at hv; cases hv)
          · rw [hx] at hv; simp only [valK] at hv; cases hv
          · rw [hx] at hv; simp only [valK] at hv; cases hv
        · rw [hargs] at hv; simp only [List.map_cons] at hv
          generalize evD s.e y = dy at hv
          generalize evD s.e z = dz at hv
          rcases hx : evD s.e x with ((l | q) | q) <;> rw [hx] at hv
          · rcases dy with ((l' | q) | q)
            · cases l <;> first | (simp only [valK] at hv; cases hv; done) | skip
            · cases l <;> (simp only [valK] at hv; cases hv)
            · cases l <;> (simp only [valK] at hv; cases hv)
          · simp only [valK] at hv; cases hv
          · simp only [valK] at hv; cases hv
      by_cases hmin : b = .min
      · subst hmin
        simp only [Op.operands, Call.operands, Array.empty_append] at hv
        rcases hargs : args.toList with _ | ⟨x, _ | ⟨y, _ | ⟨z, rest⟩⟩⟩
        · rw [hargs] at hv; simp only [List.map_nil, valK] at hv; cases hv
        · rw [hargs] at hv; simp only [List.map_cons, List.map_nil] at hv
          rcases hx : evD s.e x with ((l | q) | q) <;> rw [hx] at hv
          · cases l <;> (simp only [valK] at hv; cases hv)
          · simp only [valK] at hv; cases hv
          · simp only [valK] at hv; cases hv
        · rw [hargs] at hv
          have ha : args = #[x, y] := by apply Array.ext'; rw [hargs]
          subst ha
          simp only [List.map_cons, List.map_nil] at hv
          rcases hx : evD s.e x with ((l | q) | q)
          · rcases hy : evD s.e y with ((l' | q) | q)
            · rw [hx, hy] at hv
              cases l <;> first | (simp only [valK] at hv; cases hv; done) | skip
              cases l' <;> first | (simp only [valK] at hv; cases hv; done) | skip
              simp only [valK] at hv
              split at hv
              · rename_i hk; subst hk
                exact v_min hr hd ho hx hy hv
              · cases hv
            · rw [hx, hy] at hv; cases l <;> (simp only [valK] at hv; cases hv)
            · rw [hx, hy] at hv; cases l <;> (simp only [valK] at hv; cases hv)
          · rw [hx] at hv; simp only [valK] at hv; cases hv
          · rw [hx] at hv; simp only [valK] at hv; cases hv
        · rw [hargs] at hv; simp only [List.map_cons] at hv
          generalize evD s.e y = dy at hv
          generalize evD s.e z = dz at hv
          rcases hx : evD s.e x with ((l | q) | q) <;> rw [hx] at hv
          · rcases dy with ((l' | q) | q)
            · cases l <;> first | (simp only [valK] at hv; cases hv; done) | skip
            · cases l <;> (simp only [valK] at hv; cases hv)
            · cases l <;> (simp only [valK] at hv; cases hv)
          · simp only [valK] at hv; cases hv
          · simp only [valK] at hv; cases hv
      exfalso
      cases b <;> first | exact hlen rfl | exact hmax rfl | exact hmin rfl | (simp only [valK] at hv; cases hv; done)
    | value f =>
      have hops : (Op.call { callee := .value f, args := args, argTypes := tys }).operands.toList = f :: args.toList := by
        simp [Op.operands, Call.operands]
      rw [hops, List.map_cons] at hv
      cases hf : evD s.e f with
      | tup q => rw [hf] at hv; simp only [valK] at hv; cases hv
      | v d => cases d with
        | agg q => rw [hf] at hv; simp only [valK] at hv; cases hv
        | one l =>
          rw [hf] at hv
          cases l <;> first | (simp only [valK] at hv; cases hv; done) | skip
          rename_i gf caps
          cases caps <;> first | (simp only [valK] at hv; cases hv; done) | skip
          simp only [valK] at hv
          split at hv
          · rename_i sp hsp
            split at hv
            · rename_i x ids hx
              cases hy : sp.sem x with
              | none => rw [hy] at hv; cases hv
              | some y =>
                rw [hy] at hv
                exact v_call hvw hr hfr hd ho hf (hT gf sp hsp) hx hy hv
            · cases hv
          · cases hv
  | store => simp only [valK] at hv; cases hv
  | _ => simp only [valK] at hv; cases hv

end
end Go.Proofs.Fr

/- The operations that write: stores, appends. -/
namespace Go.Proofs.Fr
open Go Go.RowKit

variable {P : Program} {B : Bs} {nt : Nat} {fr : Nat → Prop} {s : S} {g : Nat → Value} {a : Act} {w w' : World} {R : Type} {H : Nat → Ob} {ok ok' : Nat → Prop}

/-- What a write may change. -/
def WExt (id0 : Nat) (s s1 : S) : Prop := s1.e = s.e ∧ s1.nx = s.nx ∧ ∃ new, s1.dt = new ++ s.dt ∧ ∀ id, id < id0 → id ∉ new → s1.H id = s.H id

def WGoal (P : Program) (B : Bs) (nt : Nat) (fr : Nat → Prop) (id0 : Nat) (s : S) (a : Act) (w : World) (o : Oper) (k : S → D → Option R) (r : R) : Prop :=
  ∃ s1 d, k s1 d = some r ∧ WExt id0 s s1 ∧ ∀ (next : Act → World → Prop) (Q : Exit → Act → World → Prop), (∀ g' a' w', Rel B nt (less fr id0) (s1.put o.dst d) g' a' w' → next a' w') → o.wp P a w next Q

section
variable {o : Oper} {id0 : Nat} {k : S → D → Option R} {r : R} {hb : Nat → Ob}

theorem putTD_R {ls news : List L} {cs vs : List Value} (off : Nat) (h : All2 (LR g H w ok) ls cs) (h' : All2 (LR g H w ok) news vs) : All2 (LR g H w ok) (putTD ls off news) (cs.take off ++ vs ++ cs.drop (off + vs.length)) := by
  unfold putTD
  rw [h'.len]
  exact ((h.take off).app h').app (h.drop _)

theorem putTD_mem {ls news : List L} {off : Nat} : ∀ l ∈ putTD ls off news, l ∈ ls ∨ l ∈ news := by
  intro l hl
  simp only [putTD, List.mem_append] at hl
  rcases hl with (hl | hl) | hl
  · exact .inl (List.mem_of_mem_take hl)
  · exact .inr hl
  · exact .inl (List.mem_of_mem_drop hl)

theorem run_store_at {T : TypeId} {ti : TI} (hti : tinfo P T = some ti) {kb off : Nat} {arr : Array Value} {E : Nat} {v : Value} (hsz : v.cells.size = ti.size) (hh : w.heap[kb]? = some (.cells arr E (0, 0))) (hfit : off + v.cells.size ≤ arr.size)
    (h1 : ∀ u ∈ v.cells.toList, u.oneCell' = true) :
    (Instr.storeAt T (.pointer (some ⟨kb, off, none⟩)) v).run P w = .ok () (w.setRow kb (arr.toList.take off ++ v.cells.toList ++ arr.toList.drop (off + v.cells.toList.length)).toArray) := by
  have hs := run_storeCells_at (P := P) kb off E v.cells.toList 0 arr w hh (by simpa using hfit) h1
  simp only [Nat.add_zero] at hs
  simp only [Instr.storeAt, Instr.sureAddr, storeVar, Sem.run_bind, Sem.run_pure, Result.andThen_ok, run_sizeOf hti, hsz, ne_eq, not_true_eq_false, if_false]
  exact hs

theorem D0R_one {d : D0} {v : Value} (hs : d.ls.all L.solid = true) (h : D0R g H w ok d v) : ∀ u ∈ v.cells.toList, u.oneCell' = true := by
  have hc := D0R_cells hs h
  intro u hu
  obtain ⟨i, hi, rfl⟩ := List.getElem_of_mem hu
  have hi' : i < d.ls.length := by rw [hc.len]; exact hi
  exact solid_one (List.all_eq_true.1 hs _ (List.getElem_mem hi')) (hc.get i hi' hi)

theorem skip_wp {next : Act → World → Prop} {Q : Exit → Act → World → Prop} (hrun : (execOp a.eval o).run P w = .ok .skip w') (h : next (a.put o.dst undef) w') : o.wp P a w next Q := by
  unfold Oper.wp; rw [hrun]; exact h

theorem store_run {T : TypeId} {x y : Operand} (ho : o.op = .store T x y) {p v : Value} (hp : a.eval x = p) (hv : a.eval y = v) (h : (Instr.storeAt T p v).run P w = .ok () w') : (execOp a.eval o).run P w = .ok .skip w' := by
  subst hp; subst hv
  simp only [execOp, ho, Sem.run_bind, h, Result.andThen_ok, Sem.run_pure]

theorem w_storeBox (hhb : ∀ id, hb id = .gone ∨ hb id = s.H id) (hr : Rel B nt fr s g a w) (hd : dstOk nt o.dst = true) {T : TypeId} {x y : Operand} (ho : o.op = .store T x y) {id off : Nat} {d : D0} (hx : evD s.e x = .one (.ptr id off)) (hy : evD s.e y = .v d)
    {ti : TI} (hti : tinfo P T = some ti) (hsz : d.ls.length = ti.size) (hso : d.ls.all L.solid = true) {T0 : Nat} {ls : List L} (hb0 : hb id = .box T0 ls) (hfit : off + d.ls.length ≤ ls.length)
    (hv : k { s with H := upd s.H id (.box T0 (putTD ls off d.ls)), dt := id :: s.dt } (.one .undef) = some r) : WGoal P B nt fr id0 s a w o k r := by
  have hb1 : s.H id = .box T0 ls := by rcases hhb id with e | e <;> rw [e] at hb0; cases hb0; exact hb0
  obtain ⟨hx1, _⟩ := ev_R hr x
  obtain ⟨hy1, hyi⟩ := ev_R hr y
  rw [hx] at hx1
  rw [hy] at hy1 hyi
  have hob := hr.objs id
  rw [hb1] at hob
  obtain ⟨kb, arr, hg, hh, ha⟩ := hob
  obtain ⟨kb', hg', hva⟩ := hx1.2 (.nil, 0) (by rw [hb1]; rfl)
  rw [hg] at hg'; cases hg'
  have hcells := D0R_cells hso hy1
  have hvs : (a.eval y).cells.size = d.ls.length := by rw [← Array.length_toList]; exact hcells.len.symm
  have hal : arr.size = ls.length := by rw [← Array.length_toList]; exact ha.len.symm
  have hrun := run_store_at (P := P) hti (v := a.eval y) (by rw [hvs, hsz]) hh (by rw [hvs, hal]; exact hfit) (D0R_one hso hy1)
  refine ⟨_, _, hv, ⟨rfl, rfl, [id], rfl, fun j _ hj => upd_ne _ _ (by simpa using hj)⟩, fun next Q hn => ?_⟩
  refine skip_wp (store_run ho hva rfl hrun) (hn g _ _ ?_)
  refine Rel.put_ ?_ hd (d := .one .undef) (v := undef) trivial (by simp [D.ids, D0.ids, D0.ls, L.ids])
  have hown : owned g s.H id = some kb := by simp [owned, hb1, hg, blkOf]
  refine Rel.step hr (· = id) rfl (fun j h => h.1) ?_ ?_ ?_ ?_ ?_ rfl rfl rfl (by simp) ?_ ?_ ?_
  · intro j hj; exact ⟨upd_ne _ _ hj, rfl⟩
  · rintro j rfl _; exact .inr ⟨by simp only [upd_same, hb1]; rfl, rfl⟩
  · rintro j q rfl hq
    refine .inr ⟨j, rfl, ?_⟩
    simpa only [owned, upd_same, hb1] using hq
  · rintro i j q rfl rfl _ _; rfl
  · intro q hq hne
    exact setRow_other w kb q _ (fun e => hne id rfl (e ▸ hown))
  · intro hk hc j hj
    subst hj
    simp only [upd_same]
    refine ⟨kb, _, hg, setRow_heap w kb arr _ _ _ hh, ?_⟩
    rw [List.toList_toArray]
    refine (putTD_R off ha hcells).mono_mem fun l v hl h => LR.mono hk (fun q hq => hc q ?_) h
    rcases putTD_mem l hl with h' | h'
    · exact hr.bold j T0 ls hb1 l h' q hq
    · exact hyi q (by simp only [D.ids, D0.ids, List.mem_flatMap]; exact ⟨l, h', hq⟩)
  · intro j T' ls' hj hH l hl q hq hf
    subst hj
    simp only [upd_same] at hH
    cases hH
    rcases putTD_mem l hl with h' | h'
    · exact hr.bold j T0 ls hb1 l h' q hq hf.1
    · exact hyi q (by simp only [D.ids, D0.ids, List.mem_flatMap]; exact ⟨l, h', hq⟩) hf.1
  · intro j hf
    have := hr.fresh j hf.1
    have hne : j ≠ id := fun e => by rw [e, hb1] at this; cases this
    simp only [upd_ne _ _ hne]; exact this

/-- Cells written within one element of a row. -/
theorem flat_set (n : Nat) : ∀ (css : List (List Value)) (i off : Nat) (vs : List Value), (∀ c ∈ css, c.length = n) → i < css.length → off + vs.length ≤ n →
    css.flatten.take (i * n + off) ++ vs ++ css.flatten.drop (i * n + off + vs.length) = (css.set i ((css.getD i []).take off ++ vs ++ (css.getD i []).drop (off + vs.length))).flatten
  | [], _, _, _, _, h, _ => by simp at h
  | c :: css, 0, off, vs, hl, _, ho => by
    have hc := hl c (.head _)
    simp only [List.flatten_cons, Nat.zero_mul, Nat.zero_add, List.set_cons_zero, List.getD_cons_zero]
    rw [List.take_append_of_le_length (by omega), List.drop_append_of_le_length (by omega)]
    simp
  | c :: css, i + 1, off, vs, hl, hi, ho => by
    have hc := hl c (.head _)
    have ih := flat_set n css i off vs (fun c h => hl c (.tail _ h)) (by simpa using hi) ho
    simp only [List.flatten_cons, List.set_cons_succ, List.getD_cons_succ]
    rw [← ih]
    have e1 : (i + 1) * n + off = c.length + (i * n + off) := by rw [hc, Nat.add_mul]; omega
    rw [e1, List.take_length_add_append, show c.length + (i * n + off) + vs.length = c.length + (i * n + off + vs.length) by omega, List.drop_length_add_append]
    simp

theorem w_storeRow (hhb : ∀ id, hb id = .gone ∨ hb id = s.H id) (hr : Rel B nt fr s g a w) (hd : dstOk nt o.dst = true) {T : TypeId} {x y : Operand} (ho : o.op = .store T x y) {id i off : Nat} {d : D0} (hx : evD s.e x = .one (.elo id i off)) (hy : evD s.e y = .v d)
    {ti : TI} (hti : tinfo P T = some ti) (hsz : d.ls.length = ti.size) (hso : d.ls.all L.solid = true) {E : Nat} {t : Ty} {xs : List t.den} (hb0 : hb id = .row E t xs) {x' : t.den}
    (hp : pjAll (fun j => (hb j).vw) t (putTD (inj t (rdE t xs i)) off d.ls) = some (x', [])) (hfit : off + d.ls.length ≤ t.sz)
    (hv : k { s with H := upd s.H id (.row E t (xs.set i x')), dt := id :: s.dt } (.one .undef) = some r) : WGoal P B nt fr id0 s a w o k r := by
  have hb1 : s.H id = .row E t xs := by rcases hhb id with e | e <;> rw [e] at hb0; cases hb0; exact hb0
  obtain ⟨hx1, _⟩ := ev_R hr x
  obtain ⟨hy1, hyi⟩ := ev_R hr y
  rw [hx] at hx1
  rw [hy] at hy1 hyi
  have hob := hr.objs id
  rw [hb1] at hob
  obtain ⟨hi, kb, m, c, hg, hva⟩ := hx1.2 t xs.length (by rw [hb1]; rfl)
  obtain ⟨css, hcs, hos⟩ := hob
  obtain ⟨kb', cap, cur, hgs, _, hh, hn, hm, hcur, htk⟩ : ∃ kb' cap cur, g id = .slice (some ⟨kb', 0, none⟩) xs.length cap ∧ 0 ≤ kb' ∧ w.heap[kb']? = some (.cells cur E (0, 0)) ∧ xs.length ≤ cap ∧ cap ≤ maxLen ∧ cur.size = cap * t.sz ∧ cur.toList.take (xs.length * t.sz) = css.flatten := by
    rcases hos.2 with ⟨e, _⟩ | h
    · rw [hg] at e; cases e
    · obtain ⟨q, cap, cur, e, r⟩ := h; exact ⟨q, cap, cur, e, r⟩
  rw [hg] at hgs; cases hgs
  have hcells := D0R_cells hso hy1
  have hvs : (a.eval y).cells.size = d.ls.length := by rw [← Array.length_toList]; exact hcells.len.symm
  have hvl : (a.eval y).cells.toList.length = d.ls.length := hcells.len.symm
  have hlen : css.length = xs.length := hcs.len.symm
  have hcl : ∀ c ∈ css, c.length = t.sz := by
    intro c hc
    obtain ⟨j, hj, rfl⟩ := List.getElem_of_mem hc
    exact (hcs.get j (hlen ▸ hj) hj).len
  have hle : (i + 1) * t.sz ≤ xs.length * t.sz := Nat.mul_le_mul_right _ hi
  have hle2 : xs.length * t.sz ≤ c * t.sz := Nat.mul_le_mul_right _ hn
  have hfit2 : i * t.sz + off + (a.eval y).cells.size ≤ cur.size := by rw [hvs, hcur]; rw [Nat.add_mul] at hle; omega
  have hrun := run_store_at (P := P) hti (v := a.eval y) (by rw [hvs, hsz]) hh hfit2 (D0R_one hso hy1)
  refine ⟨_, _, hv, ⟨rfl, rfl, [id], rfl, fun j _ hj => upd_ne _ _ (by simpa using hj)⟩, fun next Q hn' => ?_⟩
  refine skip_wp (store_run ho hva rfl hrun) (hn' g _ _ ?_)
  refine Rel.put_ ?_ hd (d := .one .undef) (v := undef) trivial (by simp [D.ids, D0.ids, D0.ls, L.ids])
  have hown : owned g s.H id = some kb := by simp [owned, hb1, hg, blkOf]
  refine Rel.step hr (· = id) rfl (fun j h => h.1) ?_ ?_ ?_ ?_ ?_ rfl rfl rfl (by simp) ?_ ?_ ?_
  · intro j hj; exact ⟨upd_ne _ _ hj, rfl⟩
  · rintro j rfl _; exact .inr ⟨by simp only [upd_same, hb1, shO, List.length_set], rfl⟩
  · rintro j q rfl hq
    refine .inr ⟨j, rfl, ?_⟩
    simpa only [owned, upd_same, hb1] using hq
  · rintro i j q rfl rfl _ _; rfl
  · intro q hq hne
    exact setRow_other w kb q _ (fun e => hne id rfl (e ▸ hown))
  · intro hk hc j hj
    subst hj
    simp only [upd_same]
    -- the element's cells
    have hic : i < css.length := hlen ▸ hi
    have hel : css.getD i [] = css[i] := by simp [List.getD_eq_getElem?_getD, List.getElem?_eq_getElem hic]
    have hei : En w (okB B g s.H w) t (rdE t xs i) css[i] := by
      have : rdE t xs i = xs[i] := by simp [rdE, List.getD_eq_getElem?_getD, List.getElem?_eq_getElem hi]
      rw [this]; exact hcs.get i hi hic
    have hput := putTD_R (g := g) (H := s.H) off (inj_LR hei) hcells
    have hvwr : ∀ id E t xs, (fun j => (hb j).vw) id = .row E t xs → (s.H id).vw = .row E t xs := by
      intro id E t xs h
      rcases hhb id with e | e
      · simp only [e] at h; cases h
      · simpa only [e] using h
    have hen' := pjAll_En (ok' := okB B g s.H w) hvwr hr.objs (fun _ h => h) hp hput (by simp)
    have hset := flat_set t.sz css i off (a.eval y).cells.toList hcl hic (by rw [hvl]; exact hfit)
    refine ⟨css.set i ((css.getD i []).take off ++ (a.eval y).cells.toList ++ (css.getD i []).drop (off + (a.eval y).cells.toList.length)), ?_, ?_⟩
    · refine All2.mono (fun x c h => En.mono hk h) (hcs.set i ?_)
      rw [hel]; exact hen'
    · refine ⟨?_, .inr ⟨kb, c, _, by rw [hg, List.length_set], Nat.zero_le _, setRow_heap w kb cur _ _ _ hh, by rw [List.length_set]; exact hn, hm, ?_, ?_⟩⟩
      · rw [← hset]
        have hfl := hos.1
        simp only [List.length_append, List.length_take, List.length_drop, hfl, List.length_set, hvl]
        rw [Nat.add_mul] at hle; omega
      · simp only [List.size_toArray, List.length_append, List.length_take, List.length_drop, Array.length_toList, hvl]
        rw [hvs] at hfit2; omega
      · rw [List.length_set, List.toList_toArray, ← hset, ← htk]
        apply List.ext_getElem?
        intro j
        have q1 : i * t.sz + off + d.ls.length ≤ xs.length * t.sz := by rw [Nat.add_mul] at hle; omega
        have q2 : i * t.sz + off ≤ cur.size := by rw [hcur]; omega
        simp only [List.append_assoc, List.getElem?_take, List.getElem?_append, List.length_take, List.getElem?_drop, Array.length_toList, hvl]
        have m1 : min (i * t.sz + off) cur.size = i * t.sz + off := by omega
        have m2 : min (i * t.sz + off) (min (xs.length * t.sz) cur.size) = i * t.sz + off := by omega
        rw [m1, m2]
        by_cases j1 : j < xs.length * t.sz
        · by_cases j2 : j < i * t.sz + off
          · simp [j1, j2]
          · by_cases j3 : j - (i * t.sz + off) < d.ls.length
            · simp [j1, j2, j3]
            · have : i * t.sz + off + d.ls.length + (j - (i * t.sz + off) - d.ls.length) = j := by omega
              simp [j1, j2, j3, this]
        · have j2 : ¬ j < i * t.sz + off := by omega
          have j3 : ¬ j - (i * t.sz + off) < d.ls.length := by omega
          have : i * t.sz + off + d.ls.length + (j - (i * t.sz + off) - d.ls.length) = j := by omega
          simp [j1, j2, j3, this]
  · intro j T' ls' hj hH l hl q hq hf
    subst hj
    simp only [upd_same] at hH
    cases hH
  · intro j hf
    have := hr.fresh j hf.1
    have hne : j ≠ id := fun e => by rw [e, hb1] at this; cases this
    simp only [upd_ne _ _ hne]; exact this

end
end Go.Proofs.Fr

/- Appends; all operations that write. -/
namespace Go.Proofs.Fr
open Go Go.RowKit

variable {P : Program} {B : Bs} {nt : Nat} {fr : Nat → Prop} {s : S} {g : Nat → Value} {a : Act} {w w' : World} {R : Type} {H : Nat → Ob} {ok ok' : Nat → Prop}

/-- Elements that lie in a row, wherever. -/
def SrcR (w : World) (ok : Nat → Prop) (t : Ty) (ys : List t.den) (v : Value) : Prop :=
  ∃ A c css, v = .slice A ys.length c ∧ All2 (En w ok t) ys css ∧ ∀ j u, css.flatten[j]? = some u → ∃ ad, A = some ad ∧ w.cell? (ad.add j) = some u

theorem RowO.src {E : Nat} {t : Ty} {xs : List t.den} {v : Value} (h : RowO w ok E t xs v) : SrcR w ok t xs v := by
  obtain ⟨A, c, hv, _, hA⟩ := h.slice_
  obtain ⟨css, hc, ho⟩ := h
  refine ⟨A, c, css, hv, hc, fun j u hj => ?_⟩
  rcases ho.2 with ⟨rfl, h0⟩ | ⟨q, cap, cur, hq, _⟩
  · have hlen := ho.1
    rw [h0, Nat.zero_mul] at hlen
    rw [List.eq_nil_of_length_eq_zero hlen] at hj; simp at hj
  · have hb : blkOf v = some q := by rw [hq]; rfl
    refine ⟨_, hA q hb, ?_⟩
    have := ho.cells (g := q) (by rw [hq]; rfl) j u hj
    exact this

theorem pick_list {α β : Type} {Q : α → β → Prop} : ∀ (xs : List α), (∀ i (h : i < xs.length), ∃ b, Q xs[i] b) → ∃ bs, All2 Q xs bs
  | [], _ => ⟨[], trivial⟩
  | x :: xs, h => by
    obtain ⟨b, hb⟩ := h 0 (by simp)
    obtain ⟨bs, hbs⟩ := pick_list xs fun i hi => by have := h (i + 1) (by simpa using hi); simpa using this
    exact ⟨b :: bs, hb, hbs⟩

theorem flat_inv {α : Type} {Q : α → List Value → Prop} (n : Nat) : ∀ {xs : List α} {css : List (List Value)}, All2 Q xs css → (∀ x c, Q x c → c.length = n) → ∀ j u, css.flatten[j]? = some u → ∃ i c r, css[i]? = some c ∧ c[r]? = some u ∧ j = i * n + r
  | [], [], _, _, j, u, h => by simp at h
  | [], _ :: _, h, _, _, _, _ => h.elim
  | _ :: _, [], h, _, _, _, _ => h.elim
  | x :: xs, c0 :: css, h, hl, j, u, hj => by
    have h0 := hl x c0 h.1
    simp only [List.flatten_cons] at hj
    by_cases hlt : j < c0.length
    · rw [List.getElem?_append_left hlt] at hj
      exact ⟨0, c0, j, rfl, hj, by omega⟩
    · rw [List.getElem?_append_right (by omega)] at hj
      obtain ⟨i, c, r, h1, h2, h3⟩ := flat_inv n h.2 hl _ u hj
      refine ⟨i + 1, c, r, by simpa using h1, h2, ?_⟩
      rw [Nat.add_mul]; omega

theorem En.src {E : Nat} {t : Ty} {ys : List t.den} {v : Value} (h : En w ok (.sl E t) ys [v]) : SrcR w ok t ys v := by
  obtain ⟨A, c, he, _, hr⟩ := h
  simp only [List.cons.injEq, and_true] at he
  obtain ⟨css, hcs⟩ := pick_list (Q := fun x cs => En w ok t x cs) ys fun i hi => by
    obtain ⟨_, _, cs, _, _, hen, _⟩ := hr i hi
    exact ⟨cs, hen⟩
  -- the same cells, by their places
  have hcell : ∀ i (hi : i < List.length (α := t.den) ys), ∃ k o cs, A = some ⟨k, o, none⟩ ∧ En w ok t (ys[i]'hi) cs ∧ ∀ j (hj : j < cs.length), w.cell? ⟨k, o + i * t.sz + j, none⟩ = some cs[j] := fun i hi => by
    obtain ⟨k, o, cs, hA, _, hen, hc⟩ := hr i hi
    exact ⟨k, o, cs, hA, hen, hc⟩
  clear hcs css
  obtain ⟨css, hcs⟩ : ∃ css : List (List Value), All2 (fun (p : t.den × Nat) cs => En w ok t p.1 cs ∧ ∃ k o, A = some ⟨k, o, none⟩ ∧ ∀ j (hj : j < cs.length), w.cell? ⟨k, o + p.2 * t.sz + j, none⟩ = some cs[j]) (ys.zipIdx) css := by
    refine pick_list _ fun i hi => ?_
    have hi' : i < List.length (α := t.den) ys := by simpa using hi
    obtain ⟨k, o, cs, hA, hen, hc⟩ := hcell i hi'
    refine ⟨cs, ?_, k, o, hA, ?_⟩
    · simpa using hen
    · simpa using hc
  have hlen : css.length = ys.length := by have := hcs.len; simpa using this.symm
  refine ⟨A, c, css, he, All2.of_get hlen.symm fun i hi hi' => ?_, fun j u hj => ?_⟩
  · have := (hcs.get i (by simpa using hi) hi').1
    simpa using this
  · obtain ⟨i, c', r, h1, h2, h3⟩ := flat_inv t.sz hcs (fun _ _ h => h.1.len) j u hj
    obtain ⟨hi, rfl⟩ := List.getElem?_eq_some_iff.1 h1
    obtain ⟨hr', rfl⟩ := List.getElem?_eq_some_iff.1 h2
    obtain ⟨_, k, o, hA, hc⟩ := hcs.get i (by simp; omega) hi
    refine ⟨_, hA, ?_⟩
    rw [add_at, h3, ← Nat.add_assoc]
    have := hc r hr'
    simpa using this

theorem All2_one {t : Ty} {xs : List t.den} {css : List (List Value)} (h : All2 (En w ok t) xs css) : ∀ u ∈ css.flatten, u.oneCell' = true := by
  intro u hu
  obtain ⟨c, hc, hu'⟩ := List.mem_flatten.1 hu
  obtain ⟨i, hi, rfl⟩ := List.getElem_of_mem hc
  exact (h.get i (h.len ▸ hi) hi).one u hu'

theorem blk_own (v : Value) (h : ∀ p, v ≠ .pointer p) : v.ownBlock = blkOf v := by
  cases v <;> first | rfl | skip
  case slice A n c => cases A <;> rfl
  case pointer p => exact absurd rfl (h p)

/-- What an append does to a row, its elements told by their cells. -/
theorem app_core {T e : TypeId} {ti : TI} (hT : P.underlying T = some (.slice e)) (hti : tinfo P e = some ti) {t : Ty} (h2 : ti.size = t.sz) (h3 : 0 < t.sz) (h4 : 0 < ti.bytes) (h5 : ti.zero.cells.size = ti.size) {xs ys : List t.den} {v y : Value} {css : List (List Value)}
    (hown : w.ownsRow 0 e t.sz v xs.length css.flatten) (hsrc : SrcR w ok t ys y) (hlim : xs.length + ys.length ≤ maxBytes / ti.bytes) (ty : TypeId) :
    ∃ v' w' csy, (Builtin.append_ #[T, T] ty #[v, y]).run P w = .ok v' w' ∧ All2 (En w ok t) ys csy ∧ w'.ownsRow 0 e t.sz v' (xs.length + ys.length) (css.flatten ++ csy.flatten) ∧ w.grownBy w' v.ownBlock ∧ (v'.ownBlock = v.ownBlock ∨ v'.ownBlock = some w.heap.size) := by
  obtain ⟨hu, it, hit, hz', hsz, hby⟩ := tinfo_facts hti
  obtain ⟨A, c, csy, rfl, hcs, hcell⟩ := hsrc
  have hmul : (xs.length + ys.length) * ti.bytes ≤ maxBytes := (Nat.le_div_iff_mul_le h4).1 hlim
  have hfl := flat_len (R := En w ok t) t.sz hcs (fun _ _ h => h.len)
  cases A with
  | some ad =>
    obtain ⟨v', w', q1, q2, q3, _, q5⟩ := run_append_own_at (P := P) w 0 T ty e it ti.zero t.sz ti.bytes hT hit hz' (by rw [hsz, h2]) hby (by rw [h5, h2]) h3 v xs.length css.flatten hown ad ys.length c csy.flatten hfl
      (fun j u hj => by obtain ⟨ad', e1, e2⟩ := hcell j u hj; cases e1; exact e2) (All2_one hcs)
      (by have := Nat.le_mul_of_pos_right (xs.length + ys.length) h4; unfold maxBytes at hmul; unfold maxLen; omega) (by unfold maxBytes at hmul; exact hmul) (Nat.zero_le _)
    exact ⟨v', w', csy, q1, hcs, q2, q3, q5⟩
  | none =>
    have hys : ys = [] := by
      cases ys with
      | nil => rfl
      | cons y ys =>
        have : 0 < csy.flatten.length := by rw [hfl]; simp only [List.length_cons]; exact Nat.mul_pos (by omega) h3
        obtain ⟨ad, e1, _⟩ := hcell 0 _ (List.getElem?_eq_getElem this)
        cases e1
    subst hys
    have hcsy : csy = [] := All2.nil_l hcs
    subst hcsy
    refine ⟨v, w, [], ?_, trivial, by simpa using hown, ⟨rfl, rfl, rfl, Nat.le_refl _, fun _ _ _ => rfl⟩, .inl rfl⟩
    rcases hown.2 with ⟨rfl, h0⟩ | ⟨q, cap, cur, rfl, _, hh, hn, _⟩
    · simp [Builtin.append_, run_underlying hT, sizeOf, typeInfo, hit, Builtin.lenOf, Builtin.firstCells]
    · have : (storeCells ⟨q, xs.length * it.size, none⟩ [] 0).run P w = .ok () w := rfl
      simp [Builtin.append_, run_underlying hT, sizeOf, typeInfo, hit, Builtin.lenOf, Builtin.firstCells, hn, storeCells]

section
variable {o : Oper} {id0 : Nat} {k : S → D → Option R} {r : R} {hb : Nat → Ob}

theorem srcOf_R (hhb : ∀ id, hb id = .gone ∨ hb id = s.H id) (hr : Rel B nt fr s g a w) {y : Operand} {b : L} (hy : evD s.e y = .one b) {t : Ty} {ys : List t.den} (h : srcOf t hb b = some ys) : SrcR w (okB B g s.H w) t ys (a.eval y) := by
  obtain ⟨hy1, _⟩ := ev_R hr y
  rw [hy] at hy1
  cases b <;> simp only [srcOf] at h <;> try cases h
  case row E t' xs =>
    split at h
    · rename_i ht; subst ht; cases h
      exact En.src (show En w (okB B g s.H w) (.sl E t') xs [a.eval y] from hy1)
    · cases h
  case nils =>
    rw [show a.eval y = .slice none 0 0 from hy1]
    exact ⟨none, 0, [], rfl, trivial, fun j u hj => by simp at hj⟩
  case own id =>
    split at h
    · rename_i E t' xs hv
      split at h
      · rename_i ht; subst ht; cases h
        have hv' : (s.H id).vw = .row E t' xs := by rcases hhb id with e | e <;> rw [e] at hv; cases hv; exact hv
        have hva : a.eval y = g id := hy1.2 t' xs.length (sh_of_vw hv')
        rw [hva]
        have hob := hr.objs id
        cases e : s.H id with
        | gone => rw [e] at hv'; cases hv'
        | box T ls => rw [e] at hv'; cases hv'
        | row E' t'' xs' => rw [e] at hv' hob; cases hv'; exact RowO.src hob
        | fr E' t'' xs' => rw [e] at hv' hob; cases hv'; exact En.src hob.1
      · cases h
    · cases h

theorem app_run {T : TypeId} {x y : Operand} (ho : o.op = .call { callee := .builtin .append, args := #[x, y], argTypes := #[T, T] }) {v v' u : Value} (hx : a.eval x = v) (hy : a.eval y = u) (h : (Builtin.append_ #[T, T] o.type #[v, u]).run P w = .ok v' w') :
    (execOp a.eval o).run P w = .ok (.value v') w' := by
  subst hx; subst hy
  simp [execOp, ho, resolve, invoke, builtin, h]

theorem w_append (hhb : ∀ id, hb id = .gone ∨ hb id = s.H id) (hr : Rel B nt fr s g a w) (hfr : ∀ j, id0 ≤ j → j < id0 + 8 → fr j) (hd : dstOk nt o.dst = true) {T e : TypeId} {x y : Operand} (ho : o.op = .call { callee := .builtin .append, args := #[x, y], argTypes := #[T, T] })
    {l b : L} (hx : evD s.e x = .one l) (hy : evD s.e y = .one b) (hT : P.underlying T = some (.slice e)) {ti : TI} (hti : tinfo P e = some ti) {t : Ty} (h2 : ti.size = t.sz) (h3 : 0 < t.sz) (h4 : 0 < ti.bytes) (h5 : ti.zero.cells.size = ti.size) {xs ys : List t.den} (hs : srcOf t hb b = some ys)
    {H' : Nat → Ob} {dt' : List Nat} (hl : (l = .nils ∧ xs = [] ∧ H' = upd s.H id0 (.row e t ys) ∧ dt' = s.dt) ∨ ∃ id, l = .own id ∧ hb id = .row e t xs ∧ H' = upd (upd s.H id .gone) id0 (.row e t (xs ++ ys)) ∧ dt' = id :: s.dt) (hlim : xs.length + ys.length ≤ maxBytes / ti.bytes)
    (hv : k { s with H := H', dt := dt' } (.one (.own id0)) = some r) : WGoal P B nt fr id0 s a w o k r := by
  obtain ⟨hx1, hxi⟩ := ev_R hr x
  rw [hx] at hx1 hxi
  have hsrc := srcOf_R hhb hr hy hs
  have hgone : s.H id0 = .gone := hr.fresh id0 (hfr id0 (Nat.le_refl _) (by omega))
  -- the row that grows
  have hrow : ∃ css, All2 (En w (okB B g s.H w) t) xs css ∧ w.ownsRow 0 e t.sz (a.eval x) xs.length css.flatten ∧ (∀ p, a.eval x ≠ .pointer p) ∧
      ((l = .nils ∧ blkOf (a.eval x) = none) ∨ ∃ id, l = .own id ∧ s.H id = .row e t xs ∧ a.eval x = g id ∧ id ≠ id0) := by
    rcases hl with ⟨rfl, rfl, _, _⟩ | ⟨id, rfl, hb0, _, _⟩
    · have : a.eval x = .slice none 0 0 := hx1
      rw [this]
      exact ⟨[], trivial, World.ownsRow_nil _ _ _ _, by simp, .inl ⟨rfl, rfl⟩⟩
    · have hb1 : s.H id = .row e t xs := by rcases hhb id with e | e <;> rw [e] at hb0; cases hb0; exact hb0
      have hva : a.eval x = g id := hx1.2 t xs.length (by rw [hb1]; rfl)
      have hob := hr.objs id
      rw [hb1] at hob
      obtain ⟨A, c, hsl, _⟩ := RowO.slice_ hob
      obtain ⟨css, hc, ho'⟩ := hob
      refine ⟨css, hc, hva ▸ ho', by rw [hva, hsl]; simp, .inr ⟨id, rfl, hb1, hva, fun e => by rw [e, hgone] at hb1; cases hb1⟩⟩
  obtain ⟨css, hcs, hown, hnp, hwho⟩ := hrow
  obtain ⟨v', w', csy, hrun, hcy, hown', hgrow, hat⟩ := app_core hT hti h2 h3 h4 h5 hown hsrc hlim o.type
  have hv'np : ∀ p, v' ≠ .pointer p := by
    intro p e
    rcases hown'.2 with ⟨h, _⟩ | ⟨q, cap, cur, h, _⟩ <;> rw [h] at e <;> cases e
  have hbv' : blkOf v' = v'.ownBlock := (blk_own v' hv'np).symm
  have hbx : blkOf (a.eval x) = (a.eval x).ownBlock := (blk_own _ hnp).symm
  have hxy : xs.length + ys.length = (xs ++ ys).length := by simp
  -- all in one
  have main : ∀ (tch : Nat → Prop), (∀ j, tch j ↔ (j = id0 ∨ l = .own j)) → H' id0 = .row e t (xs ++ ys) → (∀ j, ¬ tch j → H' j = s.H j) → (∀ j, l = .own j → j ≠ id0 → H' j = .gone) →
      Rel B nt (less fr id0) { s with H := H', dt := dt' } (upd g id0 v') a w' := by
    intro tch htch h0 hun hgn
    have hownl : ∀ j q, l = .own j → owned g s.H j = some q → blkOf (a.eval x) = some q := by
      intro j q hj hq
      rcases hwho with ⟨e1, _⟩ | ⟨id, e1, e2, e3, _⟩
      · rw [e1] at hj; cases hj
      · rw [e1] at hj; cases hj
        rw [e3]; simpa [owned, e2] using hq
    have hownx : ∀ q, blkOf (a.eval x) = some q → ∃ j, l = .own j ∧ owned g s.H j = some q := by
      intro q hq
      rcases hwho with ⟨_, e2⟩ | ⟨id, e1, e2, e3, _⟩
      · rw [e2] at hq; cases hq
      · exact ⟨id, e1, by simpa [owned, e2, ← e3] using hq⟩
    have own' : ∀ j q, tch j → owned (upd g id0 v') H' j = some q → j = id0 ∧ blkOf v' = some q := by
      intro j q hj hq
      by_cases e1 : j = id0
      · subst e1
        refine ⟨rfl, ?_⟩
        simpa [owned, h0, upd_same] using hq
      · have := (htch j).1 hj
        simp only [owned, hgn j (this.resolve_left e1) e1] at hq
        cases hq
    refine Rel.step hr tch rfl (fun j h => h.1) ?_ ?_ ?_ ?_ ?_ hgrow.os hgrow.tape hgrow.output hgrow.size ?_ ?_ ?_
    · intro j hj
      refine ⟨hun j hj, upd_ne _ _ fun e => hj ((htch j).2 (.inl e))⟩
    · intro j hj hf
      have hne : j ≠ id0 := fun e => hf (e ▸ hfr id0 (Nat.le_refl _) (by omega))
      left
      show shO (H' j) = none
      rw [hgn j (((htch j).1 hj).resolve_left hne) hne]; rfl
    · intro j q hj hq
      obtain ⟨rfl, hq'⟩ := own' j q hj hq
      rw [hbv'] at hq'
      rcases hat with h | h
      · rw [h, ← hbx] at hq'
        obtain ⟨j', h1, h2⟩ := hownx q hq'
        exact .inr ⟨j', (htch j').2 (.inr h1), h2⟩
      · rw [h] at hq'; cases hq'; exact .inl (Nat.le_refl _)
    · intro i j q hi hj hiq hjq
      rw [(own' i q hi hiq).1, (own' j q hj hjq).1]
    · intro q hq hne
      refine hgrow.block q hq fun e => ?_
      obtain ⟨j', h1, h2⟩ := hownx q (hbx.trans e.symm)
      exact hne j' ((htch j').2 (.inr h1)) h2
    · intro hk hc j hj
      by_cases e1 : j = id0
      · subst e1
        show OB _ _ _ _ _ (H' j)
        rw [h0]
        show RowO _ _ _ _ _ (upd g j v' j)
        rw [upd_same]
        refine ⟨css ++ csy, (hcs.app hcy).mono fun _ _ h => En.mono hk h, ?_⟩
        rw [← hxy, List.flatten_append]; exact hown'
      · show OB _ _ _ _ _ (H' j)
        rw [hgn j (((htch j).1 hj).resolve_left e1) e1]; trivial
    · intro j T' ls' hj hH
      have hH' : H' j = .box T' ls' := hH
      by_cases e1 : j = id0
      · subst e1; rw [h0] at hH'; cases hH'
      · rw [hgn j (((htch j).1 hj).resolve_left e1) e1] at hH'; cases hH'
    · intro j hf
      have hne : j ≠ id0 := fun e => hf.2 ⟨by omega, by omega⟩
      show H' j = .gone
      by_cases hj : tch j
      · exact hgn j (((htch j).1 hj).resolve_left hne) hne
      · rw [hun j hj]; exact hr.fresh j hf.1
  have hext : WExt id0 s { s with H := H', dt := dt' } := by
    rcases hl with ⟨_, _, h1, h2⟩ | ⟨id, _, _, h1, h2⟩
    · exact ⟨rfl, rfl, [], h2, fun j hj _ => by show H' j = _; rw [h1, upd_ne _ _ (by omega)]⟩
    · exact ⟨rfl, rfl, [id], h2, fun j hj hn => by show H' j = _; rw [h1, upd_ne _ _ (by omega), upd_ne _ _ (by simpa using hn)]⟩
  refine ⟨_, _, hv, hext, fun next Q hn => ?_⟩
  have hrun' := app_run (P := P) ho rfl rfl hrun
  unfold Oper.wp
  rw [hrun']
  refine hn (upd g id0 v') _ _ (Rel.put_ ?_ hd (d := .one (.own id0)) ?_ ?_)
  · rcases hl with ⟨rfl, rfl, rfl, _⟩ | ⟨id, rfl, hb0, rfl, _⟩
    · refine main (fun j => j = id0) (fun j => by simp) (by simp [upd_same]) (fun j hj => upd_ne _ _ hj) (fun j hj => by cases hj)
    · have hne : id ≠ id0 := by
        rcases hwho with ⟨h, _⟩ | ⟨id', h, _, _, h'⟩ <;> cases h
        exact h'
      refine main (fun j => j = id0 ∨ j = id) (fun j => by simp only [L.own.injEq]; constructor <;> (rintro (h | h); exact .inl h; exact .inr h.symm)) (by simp [upd_same]) (fun j hj => ?_) (fun j hj hj' => ?_)
      · rw [upd_ne _ _ (fun h => hj (.inl h)), upd_ne _ _ (fun h => hj (.inr h))]
      · cases hj; rw [upd_ne _ _ hj', upd_same]
  · refine ⟨?_, fun t' n _ => (upd_same _ _ _).symm⟩
    rcases hown'.2 with ⟨h, _⟩ | ⟨q, cap, cur, h, _⟩ <;> rw [h] <;> rfl
  · intro j hj hl'
    have : j = id0 := by simpa [D.ids, D0.ids, D0.ls, L.ids] using hj
    subst this
    exact hl'.2 ⟨Nat.le_refl _, by omega⟩

theorem wrK_sound (hhb : ∀ id, hb id = .gone ∨ hb id = s.H id) (hr : Rel B nt fr s g a w) (hfr : ∀ j, id0 ≤ j → j < id0 + 8 → fr j) (hd : dstOk nt o.dst = true)
    (hv : wrK P id0 hb o.op (o.op.operands.toList.map (evD s.e)) s k = some r) : WGoal P B nt fr id0 s a w o k r := by
  generalize ho : o.op = op at hv
  cases op with
  | store T0 x y =>
    simp only [Op.operands, List.map_cons, List.map_nil] at hv
    cases hx : evD s.e x with
    | tup q => rw [hx] at hv; simp only [wrK] at hv; cases hv
    | v d => cases d with
      | agg q => rw [hx] at hv; simp only [wrK] at hv; cases hv
      | one l =>
        rw [hx] at hv
        cases hy : evD s.e y with
        | tup q => rw [hy] at hv; simp only [wrK] at hv; cases hv
        | v d =>
          rw [hy] at hv
          simp only [wrK] at hv
          split at hv
          · cases hv
          · rename_i ti hti
            split at hv
            · rename_i hc
              obtain ⟨_, hsz, hso⟩ := hc
              split at hv
              · rename_i id off
                split at hv
                · rename_i T0' ls hb0
                  split at hv
                  · rename_i hfit
                    exact w_storeBox hhb hr hd ho hx hy hti hsz hso hb0 hfit hv
                  · cases hv
                · cases hv
              · rename_i id i off
                split at hv
                · rename_i E t xs hb0
                  split at hv
                  · rename_i x' hp
                    split at hv
                    · rename_i hfit
                      exact w_storeRow hhb hr hd ho hx hy hti hsz hso hb0 hp hfit hv
                    · cases hv
                  · cases hv
                · cases hv
              · cases hv
            · cases hv
  | call c =>
    obtain ⟨callee, args, tys⟩ := c
    cases callee with
    | invoke q m => simp only [wrK] at hv; cases hv
    | value f => simp only [wrK] at hv; cases hv
    | builtin b =>
      cases b <;> first | (simp only [wrK] at hv; cases hv; done) | skip
      simp only [Op.operands, Call.operands, Array.empty_append] at hv
      match hargs : args.toList with
      | [] => rw [hargs] at hv; simp only [List.map_nil, wrK] at hv; cases hv
      | [x] =>
        rw [hargs] at hv
        simp only [List.map_cons, List.map_nil] at hv
        cases hx : evD s.e x with
        | tup q => rw [hx] at hv; simp only [wrK] at hv; cases hv
        | v d => cases d <;> (rw [hx] at hv; simp only [wrK] at hv; cases hv)
      | x :: y :: z :: rest =>
        rw [hargs] at hv
        simp only [List.map_cons] at hv
        cases hx : evD s.e x with
        | tup q => rw [hx] at hv; simp only [wrK] at hv; cases hv
        | v d => cases d with
          | agg q => rw [hx] at hv; simp only [wrK] at hv; cases hv
          | one q =>
            rw [hx] at hv
            cases hy : evD s.e y with
            | tup q => rw [hy] at hv; simp only [wrK] at hv; cases hv
            | v d => cases d <;> (rw [hy] at hv; simp only [wrK] at hv; cases hv)
      | [x, y] =>
        rw [hargs] at hv
        have ha : args = #[x, y] := by apply Array.ext'; rw [hargs]
        subst ha
        simp only [List.map_cons, List.map_nil] at hv
        cases hx : evD s.e x with
        | tup q => rw [hx] at hv; simp only [wrK] at hv; cases hv
        | v d => cases d with
          | agg q => rw [hx] at hv; simp only [wrK] at hv; cases hv
          | one l =>
            rw [hx] at hv
            cases hy : evD s.e y with
            | tup q => rw [hy] at hv; simp only [wrK] at hv; cases hv
            | v d => cases d with
              | agg q => rw [hy] at hv; simp only [wrK] at hv; cases hv
              | one b =>
                rw [hy] at hv
                simp only [wrK] at hv
                split at hv
                · rename_i T1 T2 htys
                  have ht : tys = #[T1, T2] := by apply Array.ext'; rw [htys]
                  subst ht
                  split at hv
                  · rename_i hTT; subst hTT
                    split at hv
                    · rename_i e hT0
                      split at hv
                      · rename_i ti t hti ht
                        split at hv
                        · rename_i hc
                          obtain ⟨h2, h3, h4, h5⟩ := hc
                          split at hv
                          · cases hv
                          · rename_i ys hs
                            split at hv
                            · split at hv
                              · rename_i hlim
                                exact w_append (xs := []) hhb hr hfr hd ho hx hy hT0 hti h2 h3 h4 h5 hs (.inl ⟨rfl, rfl, rfl, rfl⟩) (by simpa using hlim) hv
                              · cases hv
                            · rename_i id
                              split at hv
                              · rename_i E t0 xs hb0
                                split at hv
                                · rename_i ht0; subst ht0
                                  split at hv
                                  · rename_i hc
                                    obtain ⟨rfl, _⟩ := hc
                                    split at hv
                                    · rename_i hlim
                                      exact w_append (xs := xs) hhb hr hfr hd ho hx hy hT0 hti h2 h3 h4 h5 hs (.inr ⟨id, rfl, hb0, rfl, rfl⟩) hlim hv
                                    · cases hv
                                  · cases hv
                                · cases hv
                              · cases hv
                            · cases hv
                        · cases hv
                      · cases hv
                    · cases hv
                  · cases hv
                · cases hv
  | _ => simp only [wrK] at hv; cases hv

end
end Go.Proofs.Fr

/- A form of each operation without what comes behind it. -/
namespace Go.Proofs.Fr
open Go Go.RowKit
variable {R : Type}

theorem pickD_nat (x : Bool) (a b : D) (k : D → Option R) : pickD x a b k = (pickD x a b some).bind k := by
  unfold pickD
  split <;> (try split) <;> rfl

theorem intBin_nat (op : BinOp) (kk : IntKind) (a b : Int) (k : L → Option R) : intBin op kk a b k = (intBin op kk a b some).bind k := by
  unfold intBin
  split <;> (try split) <;> rfl

theorem strBin_nat (op : BinOp) (a b : ByteArray) (k : L → Option R) : strBin op a b k = (strBin op a b some).bind k := by
  unfold strBin
  split <;> (try split) <;> rfl

theorem binK_nat (P : Program) (op : BinOp) (xT : TypeId) (x y : D) (k : L → Option R) : binK P op xT x y k = (binK P op xT x y some).bind k := by
  unfold binK
  split
  · split
    · split <;> rfl
    · split <;> rfl
    · split
      · exact intBin_nat _ _ _ _ _
      · rfl
  · exact strBin_nat _ _ _ _
  · split <;> rfl
  · split <;> (try split) <;> rfl
  · repeat' (first | rfl | split)
  · rfl

theorem unK_nat (op : UnOp) (x : D) (k : L → Option R) : unK op x k = (unK op x some).bind k := by
  unfold unK
  split <;> rfl

theorem convK_nat (P : Program) (src dst : TypeId) (vw : Nat → Vw) (x : D) (k : L → Option R) : convK P src dst vw x k = (convK P src dst vw x some).bind k := by
  unfold convK
  split
  · rfl
  · rfl
  · split
    · split <;> rfl
    · rfl
  · split
    · split <;> rfl
    · rfl
  · rfl

abbrev Eo := D × List Ob × List Nat

theorem bind_comp {α β γ : Type} (x : Option α) (f : α → Option β) (k : β → Option γ) : (x.bind f).bind k = x.bind fun y => (f y).bind k := by cases x <;> rfl

theorem valK_nat (P : Program) (T : Nat → Option Sp) (id0 : Nat) (vw : Nat → Vw) (op : Op) (ds : List D) (k : D → List Ob → List Nat → Option R) :
    valK P T id0 vw op ds k = (valK P T id0 vw op ds fun d o i => some ((d, o, i) : Eo)).bind fun r => k r.1 r.2.1 r.2.2 := by
  unfold valK
  split
  case h_3 => rw [pickD_nat (k := fun d => k d [] []), pickD_nat (k := fun d => some ((d, [], []) : Eo)), bind_comp]; rfl
  case h_10 => rw [binK_nat (k := fun l => k (.one l) [] []), binK_nat (k := fun l => some ((.one l, [], []) : Eo)), bind_comp]; rfl
  case h_11 => rw [unK_nat (k := fun l => k (.one l) [] []), unK_nat (k := fun l => some ((.one l, [], []) : Eo)), bind_comp]; rfl
  case h_12 => rw [convK_nat (k := fun l => k (.one l) [] []), convK_nat (k := fun l => some ((.one l, [], []) : Eo)), bind_comp]; rfl
  all_goals (repeat' (first | rfl | split | (dsimp only; split)))
  all_goals (first | rfl | (rw [bind_comp]; rfl))

theorem wrK_nat (P : Program) (id0 : Nat) (hb : Nat → Ob) (op : Op) (ds : List D) (s : S) (k : S → D → Option R) :
    wrK P id0 hb op ds s k = (wrK P id0 hb op ds s fun s d => some (s, d)).bind fun r => k r.1 r.2 := by
  unfold wrK
  repeat' (first | rfl | split | (dsimp only; split))

/-- What a write does with a state that is put together otherwise. -/
theorem wrK_e (P : Program) (id0 : Nat) (hb : Nat → Ob) (op : Op) (ds : List D) (s : S) (e : Nat → D) :
    (wrK P id0 hb op ds { s with e := e } fun s d => some (s, d)) = (wrK P id0 hb op ds s fun s d => some (s, d)).map fun r => ({ r.1 with e := e }, r.2) := by
  unfold wrK
  repeat' (first | rfl | split | (dsimp only; split))

theorem wrK_same (P : Program) (id0 : Nat) (hb : Nat → Ob) (op : Op) (ds : List D) (s : S) {r : S × D} (h : (wrK P id0 hb op ds s fun s d => some (s, d)) = some r) : r.1.e = s.e ∧ r.1.nx = s.nx := by
  unfold wrK at h
  repeat' (first | (cases h; first | exact ⟨rfl, rfl⟩ | done) | split at h | (dsimp only at h; split at h))

end Go.Proofs.Fr

/- Operations in a row; two of them in either order. -/
namespace Go.Proofs.Fr
open Go Go.RowKit
variable {R : Type} {P : Program} {T : Nat → Option Sp} {nt : Nat} {ops : Array Oper} {bef : Array Nat} {nx0 : Nat} {dr : Bool}

theorem opK_nat (id0 : Nat) (acc : Nat → Bool) (dr : Bool) (o : Oper) (s : S) (k : S → Option R) : opK P T id0 acc dr o s k = (opK P T id0 acc dr o s some).bind k := by
  unfold opK
  cases isWr o.op
  · simp only [cond_false]
    rw [valK_nat (k := fun d obs ids => bif dr && !(ids.isEmpty && Nat.ble obs.length 8) then none else k (s.commit o.dst id0 d obs ids)), valK_nat (k := fun d obs ids => bif dr && !(ids.isEmpty && Nat.ble obs.length 8) then none else some (s.commit o.dst id0 d obs ids)), bind_comp]
    congr 1
    funext r
    cases (dr && !(r.2.2.isEmpty && Nat.ble r.2.1.length 8)) <;> rfl
  · simp only [cond_true]
    rw [wrK_nat (k := fun s' d => k (s'.put o.dst d)), wrK_nat (k := fun s' d => some (s'.put o.dst d)), bind_comp]
    rfl

/-- Whether an operation is to be done. -/
def gq (ops : Array Oper) (o : Oper) (e : Nat → D) : Option Bool :=
  match o.guard with
  | none => some true
  | some (j, want) => match (ops[j]?).bind (·.dst) with
    | none => none
    | some t => match e t with
      | .v (.one (.bool b)) => some (b == want)
      | .v (.one .skip) => some false
      | _ => none

theorem upd_id {α : Type} (f : Nat → α) (i : Nat) {x : α} (h : f i = x) : upd f i x = f := by
  funext j
  by_cases e : j = i
  · subst e; rw [upd_same, h]
  · rw [upd_ne _ _ e]

theorem put_id (s : S) (t : Nat) {d : D} (h : s.e t = d) : s.put (some t) d = s := by
  show ({ s with e := upd s.e t d } : S) = s
  rw [upd_id _ _ h]

theorem gdK_eq (o : Oper) (s : S) (yes no : S → Option R) : gdK ops o s yes no = match gq ops o s.e with
    | some true => yes s
    | some false => no s
    | none => none := by
  unfold gdK gq
  cases o.guard with
  | none => rfl
  | some jw =>
    obtain ⟨j, want⟩ := jw
    simp only
    cases (ops[j]?).bind (·.dst) with
    | none => rfl
    | some t =>
      simp only
      cases h : s.e t with
      | tup q => rfl
      | v d => cases d with
        | agg q => rfl
        | one l =>
          cases l <;> try rfl
          rename_i b
          cases b <;> cases want <;> simp [put_id s t h]

def stepD (P : Program) (T : Nat → Option Sp) (nt : Nat) (ops : Array Oper) (bef : Array Nat) (nx0 : Nat) (dr : Bool) (i : Nat) (s : S) : Option S :=
  match ops[i]? with
  | none => none
  | some o => bif dstOk nt o.dst then (match gq ops o s.e with
    | some true => opK P T (nx0 + 8 * i) (accOf bef nx0 dr i) dr o s some
    | some false => some (s.put o.dst (.one .skip))
    | none => none) else none

def runD (P : Program) (T : Nat → Option Sp) (nt : Nat) (ops : Array Oper) (bef : Array Nat) (nx0 : Nat) (dr : Bool) : List Nat → S → Option S
  | [], s => some s
  | i :: r, s => (stepD P T nt ops bef nx0 dr i s).bind (runD P T nt ops bef nx0 dr r)

theorem regK_eq : ∀ (L : List Nat) (s : S) (k : S → Option R), regK P T nt ops bef nx0 dr L s k = (runD P T nt ops bef nx0 dr L s).bind fun s => k { s with nx := nx0 + 8 * ops.size }
  | [], s, k => rfl
  | i :: r, s, k => by
    simp only [regK, runD, stepD]
    cases ops[i]? with
    | none => rfl
    | some o =>
      simp only
      cases dstOk nt o.dst with
      | false => rfl
      | true =>
        simp only [cond_true]
        rw [gdK_eq]
        cases gq ops o s.e with
        | none => rfl
        | some b =>
          cases b
          · simp only [Option.bind_some]; exact regK_eq r _ k
          · simp only
            rw [opK_nat, bind_comp]
            congr 1
            funext s'
            exact regK_eq r s' k

/-- What an operation does to a state's parts. -/
def eff (P : Program) (T : Nat → Option Sp) (ops : Array Oper) (id0 : Nat) (acc : Nat → Bool) (o : Oper) (e : Nat → D) (H : Nat → Ob) (dt : List Nat) : Option (D × (Nat → Ob) × List Nat) :=
  match gq ops o e with
  | none => none
  | some false => some (.one .skip, H, dt)
  | some true =>
    bif isWr o.op then (wrK P id0 (hbl acc H) o.op (o.op.operands.toList.map (evD e)) { e := fun _ => .one .undef, H := H, nx := 0, dt := dt } fun s d => some (s, d)).map fun r => (r.2, r.1.H, r.1.dt)
    else (valK P T id0 (vwl acc H) o.op (o.op.operands.toList.map (evD e)) fun d o i => some ((d, o, i) : Eo)).bind fun r =>
      bif !(r.2.2.isEmpty && Nat.ble r.2.1.length 8) then none else some (r.1, setObs (frz H r.2.2) id0 r.2.1, r.2.2 ++ dt)

def putE (e : Nat → D) (dst : Option Nat) (d : D) : Nat → D := match dst with
  | some t => upd e t d
  | none => e

theorem put_putE (s : S) (dst : Option Nat) (d : D) : s.put dst d = { s with e := putE s.e dst d } := by cases dst <;> rfl

theorem wrK_nx (P : Program) (id0 : Nat) (hb : Nat → Ob) (op : Op) (ds : List D) (s : S) (n : Nat) :
    (wrK P id0 hb op ds { s with nx := n } fun s d => some (s, d)) = (wrK P id0 hb op ds s fun s d => some (s, d)).map fun r => ({ r.1 with nx := n }, r.2) := by
  unfold wrK
  repeat' (first | rfl | split | (dsimp only; split))

theorem stepD_eq {o : Oper} {i : Nat} (ho : ops[i]? = some o) (hd : dstOk nt o.dst = true) (s : S) :
    stepD P T nt ops bef nx0 true i s = (eff P T ops (nx0 + 8 * i) (accOf bef nx0 true i) o s.e s.H s.dt).map fun r => { e := putE s.e o.dst r.1, H := r.2.1, nx := s.nx, dt := r.2.2 } := by
  unfold stepD eff
  simp only [ho, hd, cond_true]
  cases gq ops o s.e with
  | none => rfl
  | some b =>
    cases b
    · simp only [Option.map_some, put_putE]
    · simp only
      unfold opK
      cases isWr o.op
      · simp only [cond_false, Bool.true_and]
        rw [valK_nat (k := fun d obs ids => bif !(ids.isEmpty && Nat.ble obs.length 8) then none else some (s.commit o.dst (nx0 + 8 * i) d obs ids))]
        cases valK P T (nx0 + 8 * i) (vwl (accOf bef nx0 true i) s.H) o.op (o.op.operands.toList.map (evD s.e)) fun d o i => some ((d, o, i) : Eo) with
        | none => rfl
        | some r =>
          simp only [Option.bind_some]
          cases !(r.2.2.isEmpty && Nat.ble r.2.1.length 8)
          · simp only [cond_false, Option.map_some]
            congr 1
            unfold S.commit
            rw [put_putE]
          · rfl
      · simp only [cond_true]
        rw [wrK_nat (k := fun s' d => some (s'.put o.dst d))]
        have h := wrK_e P (nx0 + 8 * i) (hbl (accOf bef nx0 true i) s.H) o.op (o.op.operands.toList.map (evD s.e)) { s with e := fun _ => .one .undef } s.e
        have h2 := wrK_nx P (nx0 + 8 * i) (hbl (accOf bef nx0 true i) s.H) o.op (o.op.operands.toList.map (evD s.e)) { e := fun _ => .one .undef, H := s.H, nx := 0, dt := s.dt } s.nx
        have h3 : (wrK P (nx0 + 8 * i) (hbl (accOf bef nx0 true i) s.H) o.op (o.op.operands.toList.map (evD s.e)) s fun s d => some (s, d)) =
            (wrK P (nx0 + 8 * i) (hbl (accOf bef nx0 true i) s.H) o.op (o.op.operands.toList.map (evD s.e)) { e := fun _ => .one .undef, H := s.H, nx := 0, dt := s.dt } fun s d => some (s, d)).map fun r => ({ r.1 with e := s.e, nx := s.nx }, r.2) := by
          refine h.trans ?_
          rw [show ({ s with e := fun _ => .one .undef } : S) = { e := fun _ => .one .undef, H := s.H, nx := s.nx, dt := s.dt } from rfl]
          rw [show (wrK P (nx0 + 8 * i) (hbl (accOf bef nx0 true i) s.H) o.op (o.op.operands.toList.map (evD s.e)) { e := fun _ => .one .undef, H := s.H, nx := s.nx, dt := s.dt } fun s d => some (s, d)) = _ from h2]
          rw [Option.map_map]; rfl
        rw [h3]
        cases wrK P (nx0 + 8 * i) (hbl (accOf bef nx0 true i) s.H) o.op (o.op.operands.toList.map (evD s.e)) { e := fun _ => .one .undef, H := s.H, nx := 0, dt := s.dt } fun s d => some (s, d) with
        | none => rfl
        | some r => simp only [Option.map_some, Option.bind_some, put_putE]

theorem evD_same {e e' : Nat → D} {x : Operand} (h : ∀ t, x = .tmp t → e t = e' t) : evD e x = evD e' x := by
  cases x <;> first | rfl | exact h _ rfl

/-- An operation looks at its own slots alone. -/
theorem eff_e {id0 : Nat} {acc : Nat → Bool} {o : Oper} {e e' : Nat → D} (h : ∀ t ∈ opdTmps ops o, e t = e' t) (H : Nat → Ob) (dt : List Nat) : eff P T ops id0 acc o e H dt = eff P T ops id0 acc o e' H dt := by
  have hg : gq ops o e = gq ops o e' := by
    unfold gq
    cases hgd : o.guard with
    | none => rfl
    | some jw =>
      obtain ⟨j, want⟩ := jw
      simp only
      cases ht : (ops[j]?).bind (·.dst) with
      | none => rfl
      | some t =>
        simp only
        rw [h t (by simp only [opdTmps, hgd, ht, List.mem_append]; right; simp)]
  have hds : o.op.operands.toList.map (evD e) = o.op.operands.toList.map (evD e') := by
    refine List.map_congr_left fun x hx => evD_same fun t ht => h t ?_
    subst ht
    simp only [opdTmps, List.mem_append]
    exact .inl (List.mem_filterMap.2 ⟨_, hx, rfl⟩)
  unfold eff
  rw [hg, hds]

theorem tmp_val {id0 : Nat} {vw : Nat → Vw} {op : Op} {ds : List D} (ht : tmpOnly op = true) :
    (valK P T id0 vw op ds fun d o i => some ((d, o, i) : Eo)) = ((valK P T 0 (fun _ => .no) op ds fun d o i => some ((d, o, i) : Eo)).map (·.1)).map fun d => (d, [], []) := by
  cases op <;> first | (cases ht; done) | skip
  case move x => match ds with
    | [] => rfl
    | [d] => rfl
    | _ :: _ :: _ => rfl
  case assign x => match ds with
    | [] => rfl
    | [d] => rfl
    | _ :: _ :: _ => rfl
  case pick c x y => match ds with
    | [] => rfl
    | [d] => cases d with
      | tup => rfl
      | v d => cases d with
        | agg => rfl
        | one l => cases l <;> rfl
    | [d, _] => cases d with
      | tup => rfl
      | v d => cases d with
        | agg => rfl
        | one l => cases l <;> rfl
    | d :: _ :: _ :: _ :: _ => cases d with
      | tup => rfl
      | v d => cases d with
        | agg => rfl
        | one l => cases l <;> rfl
    | [d, a, b] => cases d with
      | tup => rfl
      | v d => cases d with
        | agg => rfl
        | one l =>
          cases l <;> try rfl
          rename_i x
          show pickD x a b (fun d => some ((d, [], []) : Eo)) = ((pickD x a b fun d => some ((d, [], []) : Eo)).map (·.1)).map fun d => (d, [], [])
          rw [pickD_nat (k := fun d => some ((d, [], []) : Eo))]
          cases pickD x a b some <;> rfl
  case build T0 parts =>
    simp only [valK]
    split
    · split <;> rfl
    · rfl
  case binOp op xT x y yT => match ds with
    | [] => rfl
    | [_] => rfl
    | _ :: _ :: _ :: _ => rfl
    | [a, b] =>
      show binK P op xT a b (fun l => some ((.one l, [], []) : Eo)) = ((binK P op xT a b fun l => some ((.one l, [], []) : Eo)).map (·.1)).map fun d => (d, [], [])
      rw [binK_nat (k := fun l => some ((.one l, [], []) : Eo))]
      cases binK P op xT a b some <;> rfl
  case unOp op xT x => match ds with
    | [] => rfl
    | _ :: _ :: _ => rfl
    | [a] =>
      show unK op a (fun l => some ((.one l, [], []) : Eo)) = ((unK op a fun l => some ((.one l, [], []) : Eo)).map (·.1)).map fun d => (d, [], [])
      rw [unK_nat (k := fun l => some ((.one l, [], []) : Eo))]
      cases unK op a some <;> rfl
  case field T0 x f => match ds with
    | [] => rfl
    | d :: _ :: _ => cases d with
      | tup => rfl
      | v d => cases d <;> rfl
    | [d] => cases d with
      | tup => rfl
      | v d => cases d with
        | one => rfl
        | agg ls =>
          simp only [valK]
          repeat' (first | rfl | split)
  case extract x i => match ds with
    | [] => rfl
    | d :: _ :: _ => cases d <;> rfl
    | [d] => cases d with
      | v => rfl
      | tup es =>
        simp only [valK]
        split <;> rfl

/-- An operation on slots alone. -/
theorem eff_tmp {id0 : Nat} {acc : Nat → Bool} {o : Oper} (ht : tmpOnly o.op = true) (e : Nat → D) : ∃ d? : Option D, ∀ H dt, eff P T ops id0 acc o e H dt = d?.map fun d => (d, H, dt) := by
  have hw : isWr o.op = false := by cases hop : o.op <;> rw [hop] at ht <;> first | rfl | (cases ht; done)
  cases hg : gq ops o e with
  | none => exact ⟨none, fun H dt => by unfold eff; rw [hg]; rfl⟩
  | some b =>
    cases b
    · exact ⟨some (.one .skip), fun H dt => by unfold eff; rw [hg]; rfl⟩
    · have key : ∃ d? : Option D, ∀ id0 vw, (valK P T id0 vw o.op (o.op.operands.toList.map (evD e)) fun d o i => some ((d, o, i) : Eo)) = d?.map fun d => (d, [], []) := by
        generalize o.op.operands.toList.map (evD e) = ds
        generalize hop : o.op = op at ht
        exact ⟨_, fun id0 vw => tmp_val ht⟩
      obtain ⟨d?, hk⟩ := key
      refine ⟨d?, fun H dt => ?_⟩
      unfold eff
      rw [hg]
      simp only [hw, cond_false, hk]
      cases d? <;> rfl

end Go.Proofs.Fr

/- Two operations in either order; all orders that the edges allow come to the same. -/
namespace Go.Proofs.Fr
open Go Go.RowKit
variable {R : Type} {P : Program} {T : Nat → Option Sp} {nt : Nat} {ops : Array Oper} {bef : Array Nat} {nx0 : Nat}

theorem putE_same {e : Nat → D} {dst : Option Nat} {d : D} {t : Nat} (h : dst ≠ some t) : putE e dst d t = e t := by
  cases dst with
  | none => rfl
  | some q => exact upd_ne _ _ fun e => h (by rw [e])

theorem putE_comm {e : Nat → D} {x y : Option Nat} {d d' : D} (h : ∀ t, x = some t → y ≠ some t) : putE (putE e x d) y d' = putE (putE e y d') x d := by
  cases x with
  | none => rfl
  | some p =>
    cases y with
    | none => rfl
    | some q =>
      have hne : q ≠ p := fun e => h p rfl (by rw [e])
      funext t
      simp only [putE]
      by_cases e1 : t = q
      · subst e1; rw [upd_same, upd_ne _ _ hne, upd_same]
      · rw [upd_ne _ _ e1]
        by_cases e2 : t = p
        · subst e2; rw [upd_same, upd_same]
        · rw [upd_ne _ _ e2, upd_ne _ _ e2, upd_ne _ _ e1]

theorem setObs_comm (H : Nat → Ob) (a b : Nat) (obs obs' : List Ob) (h : a + obs.length ≤ b ∨ b + obs'.length ≤ a) : setObs (setObs H a obs) b obs' = setObs (setObs H b obs') a obs := by
  funext id
  by_cases h1 : a ≤ id ∧ id < a + obs.length
  · have hi : id - a < obs.length := by omega
    rw [(setObs_at obs' _ b id).2 (by omega), (setObs_at obs _ a id).1 (id - a) obs[id - a] (List.getElem?_eq_getElem hi) (by omega), (setObs_at obs _ a id).1 (id - a) obs[id - a] (List.getElem?_eq_getElem hi) (by omega)]
  · by_cases h2 : b ≤ id ∧ id < b + obs'.length
    · have hi : id - b < obs'.length := by omega
      rw [(setObs_at obs _ a id).2 (by omega), (setObs_at obs' _ b id).1 (id - b) obs'[id - b] (List.getElem?_eq_getElem hi) (by omega), (setObs_at obs' _ b id).1 (id - b) obs'[id - b] (List.getElem?_eq_getElem hi) (by omega)]
    · rw [(setObs_at obs' _ b id).2 (by omega), (setObs_at obs _ a id).2 (by omega), (setObs_at obs _ a id).2 (by omega), (setObs_at obs' _ b id).2 (by omega)]

/-- An operation that writes nothing: by what it may look at alone. -/
theorem eff_q {id0 : Nat} {acc : Nat → Bool} {o : Oper} (hw : isWr o.op = false) (e : Nat → D) : ∃ q : (Nat → Vw) → Option (D × List Ob), (∀ V d obs, q V = some (d, obs) → obs.length ≤ 8) ∧ ∀ H dt, eff P T ops id0 acc o e H dt = (q (vwl acc H)).map fun r => (r.1, setObs H id0 r.2, dt) := by
  cases hg : gq ops o e with
  | none =>
    refine ⟨fun _ => none, fun V d obs h => ?_, fun H dt => ?_⟩
    · cases h
    · unfold eff; rw [hg]; rfl
  | some b =>
    cases b
    · refine ⟨fun _ => some (.one .skip, []), fun V d obs h => ?_, fun H dt => ?_⟩
      · cases h; simp
      · unfold eff; rw [hg]; rfl
    · refine ⟨fun V => (valK P T id0 V o.op (o.op.operands.toList.map (evD e)) fun d o i => some ((d, o, i) : Eo)).bind fun r => bif !(r.2.2.isEmpty && Nat.ble r.2.1.length 8) then none else some (r.1, r.2.1), fun V d obs h => ?_, fun H dt => ?_⟩
      · simp only at h
        cases hk : valK P T id0 V o.op (o.op.operands.toList.map (evD e)) fun d o i => some ((d, o, i) : Eo) with
        | none => rw [hk] at h; cases h
        | some r =>
          rw [hk] at h
          simp only [Option.bind_some] at h
          cases hc : r.2.2.isEmpty && Nat.ble r.2.1.length 8 with
          | false => rw [hc] at h; cases h
          | true =>
            rw [hc] at h
            cases h
            simp only [Bool.and_eq_true] at hc
            exact Nat.le_of_ble_eq_true hc.2
      · unfold eff
        rw [hg]
        simp only [hw, cond_false]
        cases valK P T id0 (vwl acc H) o.op (o.op.operands.toList.map (evD e)) fun d o i => some ((d, o, i) : Eo) with
        | none => rfl
        | some r =>
          obtain ⟨d, obs, ids⟩ := r
          simp only [Option.bind_some]
          cases hc : ids.isEmpty && Nat.ble obs.length 8 with
          | false => rfl
          | true =>
            simp only [Bool.and_eq_true, List.isEmpty_iff] at hc
            rw [hc.1]; rfl

theorem vwl_far {acc : Nat → Bool} {H : Nat → Ob} {id0 : Nat} {obs : List Ob} (h : obs.length ≤ 8) (hacc : ∀ id, id0 ≤ id → id < id0 + 8 → acc id = false) : vwl acc (setObs H id0 obs) = vwl acc H := by
  funext id
  unfold vwl
  by_cases h1 : id0 ≤ id ∧ id < id0 + obs.length
  · rw [hacc id h1.1 (by omega)]; rfl
  · rw [(setObs_at obs H id0 id).2 (by omega)]

theorem acc_far {i j : Nat} (hb : (bef.getD i 0).testBit j = false) : ∀ id, nx0 + 8 * j ≤ id → id < nx0 + 8 * j + 8 → accOf bef nx0 true i id = false := by
  intro id h1 h2
  unfold accOf
  have e1 : Nat.blt id nx0 = false := by
    cases h : Nat.blt id nx0
    · rfl
    · have : id < nx0 := by simpa [Nat.blt_eq] using h
      omega
  have e2 : (id - nx0) / 8 = j := by omega
  simp only [cond_true, e1, e2, hb, Bool.or_self]

theorem commOps_spec {a b : Oper} (h : commOps ops a b = true) : ((isWr a.op = false ∧ isWr b.op = false) ∨ tmpOnly a.op = true ∨ tmpOnly b.op = true) ∧ (∀ t, a.dst = some t → t ∉ opdTmps ops b ∧ b.dst ≠ some t) ∧ (∀ t, b.dst = some t → t ∉ opdTmps ops a) := by
  unfold commOps at h
  simp only [Bool.and_eq_true, Bool.or_eq_true, Bool.not_eq_true'] at h
  obtain ⟨⟨h1, h2⟩, h3⟩ := h
  refine ⟨?_, fun t ht => ?_, fun t ht => ?_⟩
  · rcases h1 with (h1 | h1) | h1
    · exact .inl h1
    · exact .inr (.inl h1)
    · exact .inr (.inr h1)
  · rw [ht] at h2
    simp only [Bool.and_eq_true, Bool.not_eq_true', bne_iff_ne, ne_eq] at h2
    exact ⟨fun hm => by have := h2.1; simp [hm] at this, h2.2⟩
  · rw [ht] at h3
    simp only [Bool.not_eq_true'] at h3
    exact fun hm => by simp [hm] at h3

/-- Two operations that no edge orders. -/
theorem step_comm {i j : Nat} {a b : Oper} (hij : i ≠ j) (ha : ops[i]? = some a) (hb : ops[j]? = some b) (hda : dstOk nt a.dst = true) (hdb : dstOk nt b.dst = true) (hc : commOps ops a b = true)
    (h1 : (bef.getD i 0).testBit j = false) (h2 : (bef.getD j 0).testBit i = false) (s : S) :
    (stepD P T nt ops bef nx0 true i s).bind (stepD P T nt ops bef nx0 true j) = (stepD P T nt ops bef nx0 true j s).bind (stepD P T nt ops bef nx0 true i) := by
  obtain ⟨hcl, hab, hba⟩ := commOps_spec hc
  have ea : ∀ d H dt, eff P T ops (nx0 + 8 * i) (accOf bef nx0 true i) a (putE s.e b.dst d) H dt = eff P T ops (nx0 + 8 * i) (accOf bef nx0 true i) a s.e H dt := fun d H dt => eff_e (fun t ht => putE_same fun e => hba t e ht) H dt
  have eb : ∀ d H dt, eff P T ops (nx0 + 8 * j) (accOf bef nx0 true j) b (putE s.e a.dst d) H dt = eff P T ops (nx0 + 8 * j) (accOf bef nx0 true j) b s.e H dt := fun d H dt => eff_e (fun t ht => putE_same fun e => (hab t e).1 ht) H dt
  rw [stepD_eq ha hda, stepD_eq hb hdb]
  have hcomm : ∀ d d', putE (putE s.e a.dst d) b.dst d' = putE (putE s.e b.dst d') a.dst d := fun d d' => putE_comm fun t ht => (hab t ht).2
  have L : ((eff P T ops (nx0 + 8 * i) (accOf bef nx0 true i) a s.e s.H s.dt).map fun r => ({ e := putE s.e a.dst r.1, H := r.2.1, nx := s.nx, dt := r.2.2 } : S)).bind (stepD P T nt ops bef nx0 true j) =
      (eff P T ops (nx0 + 8 * i) (accOf bef nx0 true i) a s.e s.H s.dt).bind fun r => (eff P T ops (nx0 + 8 * j) (accOf bef nx0 true j) b s.e r.2.1 r.2.2).map fun q => ({ e := putE (putE s.e a.dst r.1) b.dst q.1, H := q.2.1, nx := s.nx, dt := q.2.2 } : S) := by
    cases eff P T ops (nx0 + 8 * i) (accOf bef nx0 true i) a s.e s.H s.dt with
    | none => rfl
    | some r => simp only [Option.map_some, Option.bind_some]; rw [stepD_eq hb hdb]; simp only [eb]
  have Rr : ((eff P T ops (nx0 + 8 * j) (accOf bef nx0 true j) b s.e s.H s.dt).map fun r => ({ e := putE s.e b.dst r.1, H := r.2.1, nx := s.nx, dt := r.2.2 } : S)).bind (stepD P T nt ops bef nx0 true i) =
      (eff P T ops (nx0 + 8 * j) (accOf bef nx0 true j) b s.e s.H s.dt).bind fun r => (eff P T ops (nx0 + 8 * i) (accOf bef nx0 true i) a s.e r.2.1 r.2.2).map fun q => ({ e := putE (putE s.e b.dst r.1) a.dst q.1, H := q.2.1, nx := s.nx, dt := q.2.2 } : S) := by
    cases eff P T ops (nx0 + 8 * j) (accOf bef nx0 true j) b s.e s.H s.dt with
    | none => rfl
    | some r => simp only [Option.map_some, Option.bind_some]; rw [stepD_eq ha hda]; simp only [ea]
  rw [L, Rr]
  rcases hcl with ⟨hwa, hwb⟩ | ht | ht
  · obtain ⟨qa, qa8, qae⟩ := eff_q (P := P) (T := T) (ops := ops) (id0 := nx0 + 8 * i) (acc := accOf bef nx0 true i) hwa s.e
    obtain ⟨qb, qb8, qbe⟩ := eff_q (P := P) (T := T) (ops := ops) (id0 := nx0 + 8 * j) (acc := accOf bef nx0 true j) hwb s.e
    simp only [qae, qbe]
    cases hqa : qa (vwl (accOf bef nx0 true i) s.H) with
    | none =>
      cases hqb : qb (vwl (accOf bef nx0 true j) s.H) with
      | none => rfl
      | some rb =>
        simp only [Option.map_none, Option.bind_none, Option.map_some, Option.bind_some]
        rw [vwl_far (qb8 _ _ _ hqb) (acc_far h1), hqa]; rfl
    | some ra =>
      simp only [Option.map_some, Option.bind_some]
      rw [vwl_far (qa8 _ _ _ hqa) (acc_far h2)]
      cases hqb : qb (vwl (accOf bef nx0 true j) s.H) with
      | none => rfl
      | some rb =>
        simp only [Option.map_some, Option.bind_some]
        rw [vwl_far (qb8 _ _ _ hqb) (acc_far h1), hqa]
        simp only [Option.map_some]
        have := qa8 _ _ _ hqa
        have := qb8 _ _ _ hqb
        rw [hcomm, setObs_comm s.H (nx0 + 8 * i) (nx0 + 8 * j) ra.2 rb.2 (by omega)]
  · obtain ⟨d?, hd⟩ := eff_tmp (P := P) (T := T) (ops := ops) (id0 := nx0 + 8 * i) (acc := accOf bef nx0 true i) ht s.e
    simp only [hd]
    cases d? with
    | none =>
      cases eff P T ops (nx0 + 8 * j) (accOf bef nx0 true j) b s.e s.H s.dt <;> rfl
    | some d =>
      simp only [Option.map_some, Option.bind_some]
      cases eff P T ops (nx0 + 8 * j) (accOf bef nx0 true j) b s.e s.H s.dt with
      | none => rfl
      | some q => simp only [Option.map_some, Option.bind_some, hcomm]
  · obtain ⟨d?, hd⟩ := eff_tmp (P := P) (T := T) (ops := ops) (id0 := nx0 + 8 * j) (acc := accOf bef nx0 true j) ht s.e
    simp only [hd]
    cases d? with
    | none =>
      cases eff P T ops (nx0 + 8 * i) (accOf bef nx0 true i) a s.e s.H s.dt <;> rfl
    | some d =>
      simp only [Option.map_some, Option.bind_some]
      cases eff P T ops (nx0 + 8 * i) (accOf bef nx0 true i) a s.e s.H s.dt with
      | none => rfl
      | some q => simp only [Option.map_some, Option.bind_some, hcomm]

/-- An operation that hangs on none of those ahead of it comes first. -/
theorem run_bubble {i : Nat} : ∀ (A C : List Nat) (s : S), (∀ a ∈ A, ∀ s, (stepD P T nt ops bef nx0 true a s).bind (stepD P T nt ops bef nx0 true i) = (stepD P T nt ops bef nx0 true i s).bind (stepD P T nt ops bef nx0 true a)) →
    runD P T nt ops bef nx0 true (A ++ i :: C) s = (stepD P T nt ops bef nx0 true i s).bind (runD P T nt ops bef nx0 true (A ++ C))
  | [], C, s, _ => rfl
  | a :: A, C, s, h => by
    simp only [List.cons_append, runD]
    have ih : ∀ s, runD P T nt ops bef nx0 true (A ++ i :: C) s = (stepD P T nt ops bef nx0 true i s).bind (runD P T nt ops bef nx0 true (A ++ C)) := fun s => run_bubble A C s fun b hb => h b (.tail _ hb)
    have e1 : (stepD P T nt ops bef nx0 true a s).bind (runD P T nt ops bef nx0 true (A ++ i :: C)) = ((stepD P T nt ops bef nx0 true a s).bind (stepD P T nt ops bef nx0 true i)).bind (runD P T nt ops bef nx0 true (A ++ C)) := by
      rw [bind_comp]; congr 1; funext s'; exact ih s'
    rw [e1, h a (.head _) s, bind_comp]

end Go.Proofs.Fr

/- A region does what its plain form says, in whatever order it draws. -/
namespace Go.Proofs.Fr
open Go Go.RowKit
variable {R : Type} {P : Program} {T : Nat → Option Sp} {nt : Nat} {ops : Array Oper} {bef : Array Nat} {nx0 : Nat} {dr : Bool} {B : Bs} {fr : Nat → Prop} {s s' : S} {g : Nat → Value} {a : Act} {w : World} {Q : Exit → Act → World → Prop}

/-- What a piece of code may change: slots, objects (told in dt). -/
def SExt (wr : Nat → Bool) (lim : Nat) (s s' : S) : Prop :=
  (∀ t, wr t = false → s'.e t = s.e t) ∧ s.nx ≤ s'.nx ∧ ∃ new, s'.dt = new ++ s.dt ∧ ∀ id, id < lim → id ∉ new → s'.H id = s.H id

theorem SExt.refl (wr : Nat → Bool) (lim : Nat) (s : S) : SExt wr lim s s := ⟨fun _ _ => rfl, Nat.le_refl _, [], rfl, fun _ _ _ => rfl⟩
theorem SExt.trans {wr wr' wr2 : Nat → Bool} {lim lim' : Nat} {s1 s2 s3 : S} (h : SExt wr lim s1 s2) (h' : SExt wr' lim' s2 s3) (hl : lim ≤ lim') (h1 : ∀ t, wr2 t = false → wr t = false) (h2 : ∀ t, wr2 t = false → wr' t = false) : SExt wr2 lim s1 s3 := by
  obtain ⟨a1, b1, n1, c1, d1⟩ := h
  obtain ⟨a2, b2, n2, c2, d2⟩ := h'
  refine ⟨fun t ht => (a2 t (h2 t ht)).trans (a1 t (h1 t ht)), Nat.le_trans b1 b2, n2 ++ n1, by rw [c2, c1, List.append_assoc], fun id hi hn => ?_⟩
  simp only [List.mem_append, not_or] at hn
  exact (d2 id (by omega) hn.1).trans (d1 id hi hn.2)

theorem hvw_of (acc : Nat → Bool) (H : Nat → Ob) : ∀ id, vwl acc H id = .no ∨ vwl acc H id = (H id).vw := by
  intro id
  unfold vwl
  cases acc id
  · exact .inl rfl
  · exact .inr rfl
theorem hhb_of (acc : Nat → Bool) (H : Nat → Ob) : ∀ id, hbl acc H id = .gone ∨ hbl acc H id = H id := by
  intro id
  unfold hbl
  cases acc id
  · exact .inl rfl
  · exact .inr rfl

theorem opK_sound (hT : ∀ f sp, T f = some sp → Sound P f sp) {id0 : Nat} {acc : Nat → Bool} {o : Oper} (hr : Rel B nt fr s g a w) (hfr : ∀ j, id0 ≤ j → j < id0 + 8 → fr j) (hd : dstOk nt o.dst = true) (h : opK P T id0 acc dr o s some = some s') :
    (∀ (next : Act → World → Prop) (Q : Exit → Act → World → Prop), (∀ g' a' w', Rel B nt (less fr id0) s' g' a' w' → next a' w') → o.wp P a w next Q) ∧
    ((∀ t, o.dst ≠ some t → s'.e t = s.e t) ∧ s'.nx = s.nx ∧ ∃ new, s'.dt = new ++ s.dt ∧ ∀ id, id < id0 → id ∉ new → s'.H id = s.H id) := by
  unfold opK at h
  cases hw : isWr o.op with
  | true =>
    rw [hw] at h
    simp only [cond_true] at h
    obtain ⟨s1, d, hk, ⟨e1, e2, new, e3, e4⟩, hg⟩ := wrK_sound (hhb_of acc s.H) hr hfr hd h
    cases hk
    refine ⟨hg, fun t ht => ?_, ?_, new, ?_, ?_⟩
    · rw [put_putE]; show putE s1.e o.dst d t = _; rw [putE_same ht, e1]
    · rw [put_putE]; exact e2
    · rw [put_putE]; exact e3
    · rw [put_putE]; exact e4
  | false =>
    rw [hw] at h
    simp only [cond_false] at h
    obtain ⟨d, obs, ids, hk, hg⟩ := valK_sound hT (hvw_of acc s.H) hr hfr hd h
    simp only at hk
    cases hc : dr && !(ids.isEmpty && Nat.ble obs.length 8) with
    | true => rw [hc] at hk; cases hk
    | false =>
      rw [hc] at hk
      cases hk
      refine ⟨hg, fun t ht => ?_, rfl, ids, rfl, fun id hi hn => ?_⟩
      · show (s.put o.dst d).e t = _
        rw [put_putE]; exact putE_same ht
      · show setObs (frz s.H ids) id0 obs id = _
        rw [(setObs_at obs _ id0 id).2 (.inl hi), (frz_at ids s.H id).2 hn]

theorem yield_of {t j : Nat} (hr : Rel B nt fr s g a w) (hj : (ops[j]?).bind (·.dst) = some t) :
    (∀ b, s.e t = .one (.bool b) → yielded ops a.tmps j = some b) ∧ (s.e t = .one .skip → yielded ops a.tmps j = none) := by
  have h := hr.slots t
  unfold yielded
  rw [hj]
  simp only [Option.bind_some]
  constructor
  · intro b hb
    rw [hb] at h
    have hv : a.tmps.getD t undef = .bool b := h
    rw [Array.getD_eq_getD_getElem?] at hv
    cases hq : a.tmps[t]? with
    | none => rw [hq] at hv; cases hv
    | some v => rw [hq] at hv; simp only [Option.getD_some] at hv; subst hv; rfl
  · intro hb
    rw [hb] at h
    have hv : a.tmps.getD t undef = undef := h
    rw [Array.getD_eq_getD_getElem?] at hv
    cases hq : a.tmps[t]? with
    | none => rfl
    | some v => rw [hq] at hv; simp only [Option.getD_some] at hv; subst hv; rfl

theorem step_sound (hT : ∀ f sp, T f = some sp → Sound P f sp) {i : Nat} (hr : Rel B nt fr s g a w) (hfr : ∀ j, nx0 + 8 * i ≤ j → j < nx0 + 8 * i + 8 → fr j) (h : stepD P T nt ops bef nx0 dr i s = some s') :
    (∀ (K : Act → World → Prop), (∀ g' a' w', Rel B nt (less fr (nx0 + 8 * i)) s' g' a' w' → K a' w') → wpOp P ops Q i K a w) ∧ SExt (wrOps ops.toList) nx0 s s' := by
  unfold stepD at h
  cases ho : ops[i]? with
  | none => rw [ho] at h; cases h
  | some o =>
    rw [ho] at h
    simp only at h
    cases hd : dstOk nt o.dst with
    | false => rw [hd] at h; cases h
    | true =>
      rw [hd] at h
      simp only [cond_true] at h
      have hwr : ∀ t, wrOps ops.toList t = false → o.dst ≠ some t := by
        intro t ht e
        have hm : o ∈ ops.toList := by rw [Array.mem_toList_iff]; exact Array.mem_of_getElem? ho
        have : wrOps ops.toList t = true := List.any_eq_true.2 ⟨o, hm, by rw [e]; simp⟩
        rw [ht] at this; cases this
      cases hg : gq ops o s.e with
      | none => rw [hg] at h; cases h
      | some b =>
        rw [hg] at h
        have hw : Region.wanted o (yielded ops a.tmps) = b := by
          unfold Region.wanted
          unfold gq at hg
          cases hgd : o.guard with
          | none => rw [hgd] at hg; cases hg; rfl
          | some jw =>
            obtain ⟨j, want⟩ := jw
            rw [hgd] at hg
            simp only at hg ⊢
            cases ht : (ops[j]?).bind (·.dst) with
            | none => rw [ht] at hg; cases hg
            | some t =>
              rw [ht] at hg
              simp only at hg
              obtain ⟨y1, y2⟩ := yield_of (ops := ops) hr ht
              cases he : s.e t with
              | tup q => rw [he] at hg; cases hg
              | v d => cases d with
                | agg q => rw [he] at hg; cases hg
                | one l =>
                  rw [he] at hg
                  cases l <;> first | (cases hg; done) | skip
                  · cases hg; rw [y2 he]; rfl
                  · rename_i b'
                    cases hg
                    rw [y1 b' he]
                    cases b' <;> cases want <;> rfl
        cases b with
        | true =>
          simp only at h
          obtain ⟨q1, q2, q3, new, q4, q5⟩ := opK_sound hT hr hfr hd h
          refine ⟨fun K hK => ?_, fun t ht => q2 t (hwr t ht), Nat.le_of_eq q3.symm, new, q4, fun id hi hn => q5 id (by omega) hn⟩
          unfold wpOp
          rw [ho]
          simp only [hw, if_true]
          exact .inl (q1 K Q hK)
        | false =>
          cases h
          refine ⟨fun K hK => ?_, fun t ht => by rw [put_putE]; exact putE_same (hwr t ht), by rw [put_putE]; exact Nat.le_refl _, [], by rw [put_putE]; rfl, fun id _ _ => by rw [put_putE]⟩
          unfold wpOp
          rw [ho]
          simp only [hw, Bool.false_eq_true, if_false]
          exact hK g _ _ ((hr.weak fun j hj => hj.1).put_ hd rfl (by simp [D.ids, D0.ids, D0.ls, L.ids]))

theorem wrK_ext (P : Program) (id0 : Nat) (hb : Nat → Ob) (op : Op) (ds : List D) (s : S) {r : S × D} (h : (wrK P id0 hb op ds s fun s d => some (s, d)) = some r) : ∃ new, r.1.dt = new ++ s.dt ∧ ∀ id, id < id0 → id ∉ new → r.1.H id = s.H id := by
  unfold wrK at h
  repeat' (first
    | (cases h; first
        | exact ⟨[], rfl, fun j hj _ => upd_ne _ _ (by omega)⟩
        | exact ⟨[_], rfl, fun j _ hn => upd_ne _ _ (by simpa using hn)⟩
        | exact ⟨[_], rfl, fun j hj hn => (upd_ne _ _ (by omega)).trans (upd_ne _ _ (by simpa using hn))⟩
        | done)
    | split at h
    | (dsimp only at h; split at h))

theorem opK_ext {id0 : Nat} {acc : Nat → Bool} {o : Oper} (h : opK P T id0 acc dr o s some = some s') : (∀ t, o.dst ≠ some t → s'.e t = s.e t) ∧ s'.nx = s.nx ∧ ∃ new, s'.dt = new ++ s.dt ∧ ∀ id, id < id0 → id ∉ new → s'.H id = s.H id := by
  unfold opK at h
  cases hw : isWr o.op with
  | true =>
    rw [hw] at h
    simp only [cond_true] at h
    rw [wrK_nat (k := fun s' d => some (s'.put o.dst d))] at h
    cases hk : wrK P id0 (hbl acc s.H) o.op (o.op.operands.toList.map (evD s.e)) s fun s d => some (s, d) with
    | none => rw [hk] at h; cases h
    | some r =>
      rw [hk] at h
      cases h
      obtain ⟨e1, e2⟩ := wrK_same _ _ _ _ _ _ hk
      obtain ⟨new, e3, e4⟩ := wrK_ext _ _ _ _ _ _ hk
      refine ⟨fun t ht => ?_, ?_, new, ?_, ?_⟩
      · rw [put_putE]; show putE r.1.e o.dst _ t = _; rw [putE_same ht, e1]
      · rw [put_putE]; exact e2
      · rw [put_putE]; exact e3
      · rw [put_putE]; exact e4
  | false =>
    rw [hw] at h
    simp only [cond_false] at h
    rw [valK_nat (k := fun d obs ids => bif dr && !(ids.isEmpty && Nat.ble obs.length 8) then none else some (s.commit o.dst id0 d obs ids))] at h
    cases hk : valK P T id0 (vwl acc s.H) o.op (o.op.operands.toList.map (evD s.e)) fun d o i => some ((d, o, i) : Eo) with
    | none => rw [hk] at h; cases h
    | some r =>
      rw [hk] at h
      obtain ⟨d, obs, ids⟩ := r
      simp only [Option.bind_some] at h
      cases hc : dr && !(ids.isEmpty && Nat.ble obs.length 8) with
      | true => rw [hc] at h; cases h
      | false =>
        rw [hc] at h
        cases h
        refine ⟨fun t ht => ?_, rfl, ids, rfl, fun id hi hn => ?_⟩
        · show (s.put o.dst d).e t = _
          rw [put_putE]; exact putE_same ht
        · show setObs (frz s.H ids) id0 obs id = _
          rw [(setObs_at obs _ id0 id).2 (.inl hi), (frz_at ids s.H id).2 hn]

theorem step_ext {i : Nat} (h : stepD P T nt ops bef nx0 dr i s = some s') : SExt (wrOps ops.toList) nx0 s s' := by
  unfold stepD at h
  cases ho : ops[i]? with
  | none => rw [ho] at h; cases h
  | some o =>
    rw [ho] at h
    simp only at h
    have hwr : ∀ t, wrOps ops.toList t = false → o.dst ≠ some t := by
      intro t ht e
      have hm : o ∈ ops.toList := by rw [Array.mem_toList_iff]; exact Array.mem_of_getElem? ho
      have : wrOps ops.toList t = true := List.any_eq_true.2 ⟨o, hm, by rw [e]; simp⟩
      rw [ht] at this; cases this
    cases hd : dstOk nt o.dst with
    | false => rw [hd] at h; cases h
    | true =>
      rw [hd] at h
      simp only [cond_true] at h
      cases hg : gq ops o s.e with
      | none => rw [hg] at h; cases h
      | some b =>
        rw [hg] at h
        cases b with
        | true =>
          obtain ⟨q2, q3, new, q4, q5⟩ := opK_ext h
          exact ⟨fun t ht => q2 t (hwr t ht), Nat.le_of_eq q3.symm, new, q4, fun id hi hn => q5 id (by omega) hn⟩
        | false =>
          cases h
          exact ⟨fun t ht => by rw [put_putE]; exact putE_same (hwr t ht), by rw [put_putE]; exact Nat.le_refl _, [], by rw [put_putE]; rfl, fun id _ _ => by rw [put_putE]⟩

theorem run_ext : ∀ (L : List Nat) (s sf : S), runD P T nt ops bef nx0 dr L s = some sf → SExt (wrOps ops.toList) nx0 s sf
  | [], s, sf, h => by cases h; exact SExt.refl _ _ _
  | i :: r, s, sf, h => by
    simp only [runD] at h
    cases hs : stepD P T nt ops bef nx0 dr i s with
    | none => rw [hs] at h; cases h
    | some s1 =>
      rw [hs] at h
      exact (step_ext hs).trans (run_ext r s1 sf h) (Nat.le_refl _) (fun _ h => h) (fun _ h => h)

/-- The names that are still free. -/
def frL (nx0 n : Nat) (L : List Nat) : Nat → Prop := fun id => nx0 + 8 * n ≤ id ∨ ∃ i ∈ L, nx0 + 8 * i ≤ id ∧ id < nx0 + 8 * i + 8

theorem text_sound (hT : ∀ f sp, T f = some sp → Sound P f sp) : ∀ (L : List Nat) {s sf : S} {g : Nat → Value} {a : Act} {w : World}, L.Nodup → (∀ i ∈ L, i < ops.size) → Rel B nt (frL nx0 ops.size L) s g a w → runD P T nt ops bef nx0 dr L s = some sf →
    SExt (wrOps ops.toList) nx0 s sf ∧ ((∀ g' a' w', Rel B nt (frL nx0 ops.size []) sf g' a' w' → Q .normal a' w') → wpOps P ops Q L a w)
  | [], s, sf, g, a, w, _, _, hr, h => by
    cases h
    exact ⟨SExt.refl _ _ _, fun hQ => hQ g a w hr⟩
  | i :: r, s, sf, g, a, w, hn, hlt, hr, h => by
    simp only [runD] at h
    cases hs : stepD P T nt ops bef nx0 dr i s with
    | none => rw [hs] at h; cases h
    | some s1 =>
      rw [hs] at h
      simp only [Option.bind_some] at h
      obtain ⟨h1, h2⟩ := step_sound (Q := Q) hT hr (fun j h1 h2 => .inr ⟨i, .head _, h1, h2⟩) hs
      have hi := hlt i (.head _)
      have hsub : ∀ j, frL nx0 ops.size r j → less (frL nx0 ops.size (i :: r)) (nx0 + 8 * i) j := by
        intro j hj
        rcases hj with hj | ⟨q, hq, hq1, hq2⟩
        · exact ⟨.inl hj, by omega⟩
        · refine ⟨.inr ⟨q, .tail _ hq, hq1, hq2⟩, fun hh => ?_⟩
          have : q = i := by omega
          subst this
          exact (List.nodup_cons.1 hn).1 hq
      have ih : ∀ g' a' w', Rel B nt (less (frL nx0 ops.size (i :: r)) (nx0 + 8 * i)) s1 g' a' w' → SExt (wrOps ops.toList) nx0 s1 sf ∧ ((∀ g' a' w', Rel B nt (frL nx0 ops.size []) sf g' a' w' → Q .normal a' w') → wpOps P ops Q r a' w') :=
        fun g' a' w' hr' => text_sound hT r (List.nodup_cons.1 hn).2 (fun j hj => hlt j (.tail _ hj)) (hr'.weak hsub) h
      refine ⟨?_, fun hQ => ?_⟩
      · exact h2.trans (run_ext r s1 sf h) (Nat.le_refl _) (fun _ h => h) (fun _ h => h)
      · rw [wpOps_cons]
        exact h1 _ fun g' a' w' hr' => (ih g' a' w' hr').2 hQ


/-! orders that are drawn -/

def remOf (ops : Array Oper) (listed : Array Bool) : List Nat := (List.range ops.size).filter fun i => !listed.getD i true

theorem befOk_spec (h : befOk ops bef = true) {j : Nat} {o : Oper} (ho : ops[j]? = some o) : (∀ e ∈ o.after, Region.binds .any e = true → e.on < j) ∧
    ∀ i, i < ops.size → (bef.getD j 0).testBit i = true → i < j ∧ ∃ e ∈ o.after, Region.binds .any e = true ∧ (e.on = i ∨ (bef.getD e.on 0).testBit i = true) := by
  have hj : j < ops.size := (Array.getElem?_eq_some_iff.1 ho).1
  unfold befOk at h
  have := List.all_eq_true.1 h j (List.mem_range.2 hj)
  rw [ho] at this
  simp only [Bool.and_eq_true] at this
  obtain ⟨h1, h2⟩ := this
  refine ⟨fun e he hb => ?_, fun i hi hb => ?_⟩
  · have := List.all_eq_true.1 h1 e (by simpa using he)
    simpa [hb, Nat.blt_eq] using this
  · have := List.all_eq_true.1 h2 i (List.mem_range.2 hi)
    rw [hb] at this
    simp only [Bool.not_true, Bool.false_or, Bool.and_eq_true, Nat.blt_eq] at this
    obtain ⟨q1, q2⟩ := this
    obtain ⟨e, he, hq⟩ := List.any_eq_true.1 q2
    simp only [Bool.and_eq_true, Bool.or_eq_true] at hq
    refine ⟨q1, e, by simpa using he, hq.1, ?_⟩
    rcases hq.2 with h | h
    · exact .inl (Nat.eq_of_beq_eq_true h)
    · exact .inr h

theorem drawOk_spec {mx : Bool} (h : drawOk mx ops bef = true) : (mx || !(Region.departs ops)) = true ∧ befOk ops bef = true ∧ ∀ i j a b, i < j → ops[i]? = some a → ops[j]? = some b → (bef.getD j 0).testBit i = false → commOps ops a b = true := by
  unfold drawOk at h
  rw [Bool.and_eq_true, Bool.and_eq_true] at h
  obtain ⟨⟨h1, h2⟩, h3⟩ := h
  refine ⟨h1, h2, fun i j a b hij ha hb hbit => ?_⟩
  have hj : j < ops.size := (Array.getElem?_eq_some_iff.1 hb).1
  have := List.all_eq_true.1 (List.all_eq_true.1 h3 j (List.mem_range.2 hj)) i (List.mem_range.2 hij)
  rw [ha, hb, hbit] at this
  simpa using this

/-- What is listed has all listed on which it hangs. -/
def closedL (ops : Array Oper) (bef : Array Nat) (listed : Array Bool) : Prop := ∀ i, i < ops.size → listed.getD i true = true → ∀ k, k < ops.size → (bef.getD i 0).testBit k = true → listed.getD k true = true

theorem mem_rem {listed : Array Bool} {i : Nat} : i ∈ remOf ops listed ↔ i < ops.size ∧ listed.getD i true = false := by
  simp [remOf]

theorem mem_ready {listed : Array Bool} {i : Nat} : i ∈ Region.ready .any ops listed ↔ i < ops.size ∧ listed.getD i true = false ∧ ∃ o, ops[i]? = some o ∧ ∀ e ∈ o.after, Region.binds .any e = true → listed.getD e.on false = true := by
  unfold Region.ready
  simp only [List.mem_filter, List.mem_range, Bool.and_eq_true, Bool.not_eq_true']
  constructor
  · rintro ⟨h1, h2, h3⟩
    refine ⟨h1, h2, ?_⟩
    rw [Array.getElem?_eq_getElem h1] at h3
    refine ⟨ops[i], Array.getElem?_eq_getElem h1, fun e he hb => ?_⟩
    simp only [Option.map_some, Option.getD_some] at h3
    have := Array.all_eq_true'.1 h3 e he
    simpa [hb] using this
  · rintro ⟨h1, h2, o, ho, h3⟩
    refine ⟨h1, h2, ?_⟩
    rw [ho]
    simp only [Option.map_some, Option.getD_some]
    refine Array.all_eq_true'.2 fun e he => ?_
    cases hb : Region.binds .any e with
    | false => rfl
    | true => rw [h3 e he hb]; rfl

theorem getD_tf {listed : Array Bool} {i : Nat} (h : listed.getD i false = true) : listed.getD i true = true := by
  simp only [Array.getD_eq_getD_getElem?] at *
  cases hq : listed[i]? with
  | none => rw [hq] at h; cases h
  | some b => rw [hq] at h; simpa using h

theorem rem_split {listed : Array Bool} (hsz : listed.size = ops.size) {i : Nat} (hi : i ∈ remOf ops listed) : ∃ A C, remOf ops listed = A ++ i :: C ∧ remOf ops (listed.setIfInBounds i true) = A ++ C ∧ (∀ a ∈ A, a < i) ∧ (∀ c ∈ C, i < c) := by
  obtain ⟨hlt, hf⟩ := mem_rem.1 hi
  have hs : List.range ops.size = List.range i ++ i :: (List.range' (i + 1) (ops.size - (i + 1))) := by
    rw [List.range_eq_range', List.range_eq_range']
    have h1 : List.range' 0 ops.size = List.range' 0 i ++ List.range' (0 + i) (ops.size - i) := by
      rw [List.range'_append_1]; congr 1; omega
    rw [h1, Nat.zero_add]
    congr 1
    have : ops.size - i = (ops.size - (i + 1)) + 1 := by omega
    rw [this, List.range'_succ]
  have hset : ∀ k, k ≠ i → (listed.setIfInBounds i true).getD k true = listed.getD k true := by
    intro k hk
    simp [Array.getD_eq_getD_getElem?, Ne.symm hk]
  have hseti : (listed.setIfInBounds i true).getD i true = true := by
    simp [Array.getD_eq_getD_getElem?, hsz, hlt]
  refine ⟨(List.range i).filter fun k => !listed.getD k true, (List.range' (i + 1) (ops.size - (i + 1))).filter fun k => !listed.getD k true, ?_, ?_, ?_, ?_⟩
  · unfold remOf
    rw [hs, List.filter_append, List.filter_cons]
    simp [hf]
  · unfold remOf
    rw [hs, List.filter_append, List.filter_cons]
    simp only [hseti, Bool.not_true, Bool.false_eq_true, if_false]
    congr 1
    · refine List.filter_congr fun k hk => ?_
      rw [hset k (by have := List.mem_range.1 hk; omega)]
    · refine List.filter_congr fun k hk => ?_
      rw [hset k (by have := List.mem_range'_1.1 hk; omega)]
  · intro a ha; exact List.mem_range.1 (List.mem_filter.1 ha).1
  · intro c hc; have := List.mem_range'_1.1 (List.mem_filter.1 hc).1; omega

theorem dst_of_run : ∀ (L : List Nat) (s sf : S), runD P T nt ops bef nx0 true L s = some sf → ∀ i ∈ L, ∃ o, ops[i]? = some o ∧ dstOk nt o.dst = true
  | [], _, _, _, i, hi => by cases hi
  | j :: r, s, sf, h, i, hi => by
    simp only [runD] at h
    cases hs : stepD P T nt ops bef nx0 true j s with
    | none => rw [hs] at h; cases h
    | some s1 =>
      rw [hs] at h
      rcases List.mem_cons.1 hi with rfl | hi
      · unfold stepD at hs
        cases ho : ops[i]? with
        | none => rw [ho] at hs; cases hs
        | some o =>
          rw [ho] at hs
          simp only at hs
          refine ⟨o, rfl, ?_⟩
          cases hd : dstOk nt o.dst with
          | true => rfl
          | false => rw [hd] at hs; cases hs
      · exact dst_of_run r s1 sf h i hi

theorem any_sound (hT : ∀ f sp, T f = some sp → Sound P f sp) {mx : Bool} (hok : drawOk mx ops bef = true) : ∀ (fuel : Nat) (listed : Array Bool) {s sf : S} {g : Nat → Value} {a : Act} {w : World}, listed.size = ops.size → (remOf ops listed).length ≤ fuel → closedL ops bef listed →
    Rel B nt (frL nx0 ops.size (remOf ops listed)) s g a w → runD P T nt ops bef nx0 true (remOf ops listed) s = some sf → (∀ g' a' w', Rel B nt (frL nx0 ops.size []) sf g' a' w' → Q .normal a' w') → wpAny P .any ops Q fuel listed a w := by
  obtain ⟨_, hbef, hcomm⟩ := drawOk_spec hok
  -- where all is listed
  have done : ∀ (listed : Array Bool) {s sf : S} {g : Nat → Value} {a : Act} {w : World}, listed.size = ops.size → remOf ops listed = [] → Rel B nt (frL nx0 ops.size (remOf ops listed)) s g a w → runD P T nt ops bef nx0 true (remOf ops listed) s = some sf → (∀ g' a' w', Rel B nt (frL nx0 ops.size []) sf g' a' w' → Q .normal a' w') → Q .normal a w := by
    intro listed s sf g a w _ h0 hr hrun hQ
    rw [h0] at hr hrun
    cases hrun
    exact hQ g a w hr
  -- the first that is left is ready
  have first : ∀ (listed : Array Bool), listed.size = ops.size → Region.ready .any ops listed = [] → remOf ops listed = [] := by
    intro listed hsz h0
    cases hrem : remOf ops listed with
    | nil => rfl
    | cons i r =>
      exfalso
      have hi : i ∈ remOf ops listed := by rw [hrem]; exact .head _
      obtain ⟨A, C, e1, _, hA, _⟩ := rem_split hsz hi
      have hA0 : A = [] := by
        cases A with
        | nil => rfl
        | cons x A =>
          rw [hrem] at e1
          simp only [List.cons_append, List.cons.injEq] at e1
          have := hA x (.head _)
          omega
      obtain ⟨hlt, hf⟩ := mem_rem.1 hi
      have ho := Array.getElem?_eq_getElem hlt
      have hready : i ∈ Region.ready .any ops listed := mem_ready.2 ⟨hlt, hf, _, ho, fun e he hb => by
        have hlt' := (befOk_spec hbef ho).1 e he hb
        cases hc : listed.getD e.on false with
        | true => rfl
        | false =>
          exfalso
          have hm : e.on ∈ remOf ops listed := mem_rem.2 ⟨by omega, by
            simp only [Array.getD_eq_getD_getElem?] at hc ⊢
            rw [Array.getElem?_eq_getElem (by omega)] at hc ⊢
            simpa using hc⟩
          rw [e1, hA0, List.nil_append] at hm
          rcases List.mem_cons.1 hm with h | h
          · omega
          · obtain ⟨A', C', e1', _, hA', hC'⟩ := rem_split hsz hi
            have := hA0
            subst this
            simp only [List.nil_append] at e1
            rw [e1] at e1'
            cases A' with
            | nil => simp only [List.nil_append, List.cons.injEq, true_and] at e1'; subst e1'; have := hC' _ h; omega
            | cons x A' => simp only [List.cons_append, List.cons.injEq] at e1'; have := hA' x (.head _); omega⟩
      rw [h0] at hready
      cases hready
  intro fuel
  induction fuel with
  | zero =>
    intro listed s sf g a w hsz hl _ hr hrun hQ
    have h0 : remOf ops listed = [] := List.eq_nil_of_length_eq_zero (by omega)
    refine ⟨?_, done listed hsz h0 hr hrun hQ⟩
    cases hrd : Region.ready .any ops listed with
    | nil => rfl
    | cons i r =>
      have hi : i ∈ Region.ready .any ops listed := by rw [hrd]; exact .head _
      obtain ⟨h1, h2, _⟩ := mem_ready.1 hi
      have : i ∈ remOf ops listed := mem_rem.2 ⟨h1, h2⟩
      rw [h0] at this; cases this
  | succ fuel ih =>
    intro listed s sf g a w hsz hl hcl hr hrun hQ
    refine ⟨fun h0 => done listed hsz (first listed hsz h0) hr hrun hQ, fun i hi => ?_⟩
    obtain ⟨hlt, hf, o, ho, hpre⟩ := mem_ready.1 hi
    have hir : i ∈ remOf ops listed := mem_rem.2 ⟨hlt, hf⟩
    obtain ⟨A, C, e1, e2, hA, hC⟩ := rem_split hsz hir
    have hdst := dst_of_run _ _ _ hrun
    obtain ⟨o', ho', hdo⟩ := hdst i hir
    rw [ho] at ho'; cases ho'
    -- it hangs on none that is left
    have hbit : ∀ k, k ∈ remOf ops listed → (bef.getD i 0).testBit k = false := by
      intro k hk
      obtain ⟨hkl, hkf⟩ := mem_rem.1 hk
      cases hb : (bef.getD i 0).testBit k with
      | false => rfl
      | true =>
        exfalso
        obtain ⟨_, e, he, hbd, hor⟩ := (befOk_spec hbef ho).2 k hkl hb
        have hle := getD_tf (hpre e he hbd)
        rcases hor with rfl | hor
        · rw [hkf] at hle; cases hle
        · have hlt' := (befOk_spec hbef ho).1 e he hbd
          have := hcl e.on (by omega) hle k hkl hor
          rw [hkf] at this; cases this
    have hbub : runD P T nt ops bef nx0 true (A ++ i :: C) s = (stepD P T nt ops bef nx0 true i s).bind (runD P T nt ops bef nx0 true (A ++ C)) := by
      refine run_bubble A C s fun b hb s' => ?_
      have hbr : b ∈ remOf ops listed := by rw [e1]; exact List.mem_append.2 (.inl hb)
      obtain ⟨ob, hob, hdb⟩ := hdst b hbr
      have hbi := hA b hb
      have hib : (bef.getD b 0).testBit i = false := by
        cases hq : (bef.getD b 0).testBit i with
        | false => rfl
        | true => have := ((befOk_spec hbef hob).2 i hlt hq).1; omega
      exact step_comm (by omega) hob ho hdb hdo (hcomm b i ob o hbi hob ho (hbit b hbr)) hib (hbit b hbr) s'
    rw [e1] at hrun
    rw [hbub] at hrun
    cases hs : stepD P T nt ops bef nx0 true i s with
    | none => rw [hs] at hrun; cases hrun
    | some s1 =>
      rw [hs] at hrun
      simp only [Option.bind_some] at hrun
      obtain ⟨h1, _⟩ := step_sound (Q := Q) hT hr (fun j h1 h2 => .inr ⟨i, hir, h1, h2⟩) hs
      refine h1 _ fun g' a' w' hr' => ?_
      refine ih (listed.setIfInBounds i true) (by simpa using hsz) ?_ ?_ (hr'.weak fun j hj => ?_) (by rw [e2]; exact hrun) hQ
      · rw [e2]; rw [e1] at hl; simp only [List.length_append, List.length_cons] at hl ⊢; omega
      · intro q hq hql k hkl hb
        by_cases hki : k = i
        · subst hki
          simp [Array.getD_eq_getD_getElem?, hsz, hlt]
        · have hset : ∀ k, k ≠ i → (listed.setIfInBounds i true).getD k true = listed.getD k true := by
            intro k hk
            simp [Array.getD_eq_getD_getElem?, Ne.symm hk]
          rw [hset k hki]
          by_cases hqi : q = i
          · subst hqi
            cases hc : listed.getD k true with
            | true => rfl
            | false =>
              have := hbit k (mem_rem.2 ⟨hkl, hc⟩)
              rw [hb] at this; cases this
          · rw [hset q hqi] at hql
            exact hcl q hq hql k hkl hb
      · rw [e2] at hj
        rw [e1]
        rcases hj with hj | ⟨q, hq, hq1, hq2⟩
        · exact ⟨.inl hj, by omega⟩
        · refine ⟨.inr ⟨q, ?_, hq1, hq2⟩, fun hh => ?_⟩
          · rcases List.mem_append.1 hq with h | h
            · exact List.mem_append.2 (.inl h)
            · exact List.mem_append.2 (.inr (.tail _ h))
          · have : q = i := by omega
            subst this
            rcases List.mem_append.1 hq with h | h
            · have := hA q h; omega
            · have := hC q h; omega

theorem Rel.draw (hr : Rel B nt fr s g a w) (n : Nat) : Rel B nt fr s g a { w with drawn := n } :=
  Rel.step (w' := { w with drawn := n }) (s' := s) (g' := g) hr (fun _ => False) rfl (fun _ h => h) (fun _ _ => ⟨rfl, rfl⟩) (fun _ h => h.elim) (fun _ _ h => h.elim) (fun _ _ _ h => h.elim) (fun _ _ _ => rfl) rfl rfl rfl (Nat.le_refl _) (fun _ _ _ h => h.elim) (fun _ _ _ h => h.elim) hr.fresh

/-- A region. -/
theorem region_sound (hT : ∀ f sp, T f = some sp → Sound P f sp) {id : Nat} {s : S} {g : Nat → Value} {a : Act} {w : World} {k : S → Option R} {r : R} (hr : Rel B nt (fun j => s.nx ≤ j) s g a w)
    (h : (bif !dr || drawOk (P.follows .mixedOrders) ops (Region.before ops) then regK P T nt ops (bif dr then Region.before ops else #[]) s.nx dr (List.range ops.size) s k else none) = some r) :
    ∃ s', k s' = some r ∧ SExt (wrOps ops.toList) s.nx s s' ∧ ((∀ g' a' w', Rel B nt (fun j => s'.nx ≤ j) s' g' a' w' → Q .normal a' w') → (Code.region id ops dr).wp P Q a w) := by
  have h0 : frL s.nx ops.size (List.range ops.size) = fun j => s.nx ≤ j := by
    funext j
    refine propext ⟨fun hj => ?_, fun hj => ?_⟩
    · rcases hj with hj | ⟨i, _, hj, _⟩ <;> omega
    · by_cases hlt : s.nx + 8 * ops.size ≤ j
      · exact .inl hlt
      · exact .inr ⟨(j - s.nx) / 8, List.mem_range.2 (by omega), by omega, by omega⟩
  have h1 : ∀ sf : S, frL s.nx ops.size [] = fun j => (s.nx + 8 * ops.size) ≤ j := fun sf => by
    funext j
    refine propext ⟨fun hj => ?_, fun hj => .inl hj⟩
    rcases hj with hj | ⟨i, hi, _⟩
    · exact hj
    · cases hi
  have fin : ∀ sf : S, ∀ g' a' w', Rel B nt (frL s.nx ops.size []) sf g' a' w' → Rel B nt (fun j => ({ sf with nx := s.nx + 8 * ops.size } : S).nx ≤ j) { sf with nx := s.nx + 8 * ops.size } g' a' w' := by
    intro sf g' a' w' hrel
    rw [h1 sf] at hrel
    exact ⟨hrel.slots, hrel.sold, hrel.objs, hrel.bold, hrel.disj, hrel.base, hrel.frm, hrel.fresh, hrel.size, hrel.dfr⟩
  rw [← h0] at hr
  cases dr with
  | false =>
    simp only [Bool.not_false, Bool.true_or, cond_true, cond_false] at h
    rw [regK_eq] at h
    cases hrun : runD P T nt ops #[] s.nx false (List.range ops.size) s with
    | none => rw [hrun] at h; cases h
    | some sf =>
      rw [hrun] at h
      obtain ⟨q1, q2⟩ := text_sound (Q := Q) hT _ List.nodup_range (fun i hi => List.mem_range.1 hi) hr hrun
      obtain ⟨x1, x2, new, x3, x4⟩ := q1
      exact ⟨_, h, ⟨x1, by show s.nx ≤ s.nx + 8 * ops.size; omega, new, x3, x4⟩, fun hQ => wp_region (q2 fun g' a' w' hrel => hQ g' a' w' (fin sf g' a' w' hrel))⟩
  | true =>
    simp only [Bool.not_true, Bool.false_or, cond_true] at h
    cases hok : drawOk (P.follows .mixedOrders) ops (Region.before ops) with
    | false => rw [hok] at h; cases h
    | true =>
      rw [hok] at h
      simp only [cond_true] at h
      rw [regK_eq] at h
      cases hrun : runD P T nt ops (Region.before ops) s.nx true (List.range ops.size) s with
      | none => rw [hrun] at h; cases h
      | some sf =>
        rw [hrun] at h
        obtain ⟨x1, x2, new, x3, x4⟩ := run_ext _ _ _ hrun
        refine ⟨_, h, ⟨x1, by show s.nx ≤ s.nx + 8 * ops.size; omega, new, x3, x4⟩, fun hQ => wp_region_draw fun t => ?_⟩
        have hdep := (drawOk_spec hok).1
        simp only [Region.schedule, hdep, if_true]
        have hrem : remOf ops (Array.replicate ops.size false) = List.range ops.size := by
          unfold remOf
          rw [List.filter_eq_self]
          intro i hi
          simp [Array.getD_eq_getD_getElem?, List.mem_range.1 hi]
        refine wpAny_sound ops.size t _ a _ (any_sound hT hok ops.size (Array.replicate ops.size false) (by simp) (by rw [hrem]; simp) ?_ (s := s) (sf := sf) (g := g) ?_ (by rw [hrem]; exact hrun) fun g' a' w' hrel => hQ g' a' w' (fin sf g' a' w' hrel))
        · intro i hi hl
          exfalso
          simp [Array.getD_eq_getD_getElem?, hi] at hl
        · rw [hrem]
          exact hr.draw _

end Go.Proofs.Fr

/- A state that crosses a border: what it is packed as, and what it is behind it. -/
namespace Go.Proofs.Fr
open Go Go.RowKit
variable {R : Type} {P : Program} {T : Nat → Option Sp} {nt : Nat} {B : Bs} {s s' : S} {g g' : Nat → Value} {a : Act} {w : World} {H H' : Nat → Ob} {ok ok' : Nat → Prop}

theorem goneAll_at : ∀ (l : List Nat) (H : Nat → Ob) (id : Nat), (id ∈ l → goneAll H l id = .gone) ∧ (id ∉ l → goneAll H l id = H id)
  | [], _, _ => ⟨fun h => absurd h (by simp), fun _ => rfl⟩
  | i :: r, H, id => by
    have h := goneAll_at r (upd H i .gone) id
    simp only [goneAll]
    constructor
    · intro hm
      by_cases hr : id ∈ r
      · exact h.1 hr
      · rw [h.2 hr]
        have e : id = i := by simpa [hr] using hm
        subst e; exact upd_same _ _ _
    · intro hm
      have e1 : id ≠ i := fun e => hm (by rw [e]; exact .head _)
      rw [h.2 fun h' => hm (.tail _ h'), upd_ne _ _ e1]

/-- What is packed, slot by slot; hs: the rows that are handed on. -/
def PkS (s : S) (g : Nat → Value) (w : World) (ok' : Nat → Prop) (tm : Nat → Value) : (pk : PK) → PK.den pk → List (Option Nat) → Prop
  | [], _, hs => hs = []
  | (t, .v ty) :: r, x, hs => ∃ cs hs', hs = none :: hs' ∧ tm t = mkV ty.isAgg cs ∧ En w ok' ty x.1 cs ∧ PkS s g w ok' tm r x.2 hs'
  | (t, .own E ty) :: r, x, hs => ∃ h hs', hs = h :: hs' ∧ (match h with
      | none => x.1 = [] ∧ tm t = .slice none 0 0
      | some id => s.H id = .row E ty x.1 ∧ tm t = g id) ∧ PkS s g w ok' tm r x.2 hs'

theorem pack_S {fr : Nat → Prop} (hr : Rel B nt fr s g a w) (hok : ∀ k, okB B g s.H w k → ok' k) : ∀ {pk : PK} {x : PK.den pk} {fro own : List Nat}, pack s pk = some (x, fro, own) → (∀ id ∈ fro, ∀ k, owned g s.H id = some k → ok' k) →
    ∃ hs, PkS s g w ok' (fun t => a.tmps.getD t undef) pk x hs ∧ hs.filterMap id = own ∧ hs.length = pk.length
  | [], x, fro, own, h, _ => by simp only [pack] at h; cases h; exact ⟨[], rfl, rfl, rfl⟩
  | (t, .v ty) :: r, x, fro, own, h, hf => by
    simp only [pack] at h
    split at h
    · rename_i d he
      split at h
      · rename_i hagg
        split at h
        · rename_i x1 i1 h1
          split at h
          · rename_i y fro' own' h2
            cases h
            have hs := hr.slots t
            rw [he] at hs
            obtain ⟨cs, hv, hen⟩ := mkV_of (vw := fun j => (s.H j).vw) (fun _ _ _ _ h => h) hr.objs hok hagg h1 hs (fun id hm => hf id (List.mem_append.2 (.inl hm)))
            obtain ⟨hs', h3, h4, h5⟩ := pack_S hr hok h2 (fun id hm => hf id (List.mem_append.2 (.inr hm)))
            exact ⟨none :: hs', ⟨cs, hs', rfl, hv, hen, h3⟩, h4, by simp [h5]⟩
          · cases h
        · cases h
      · cases h
    · cases h
  | (t, .own E ty) :: r, x, fro, own, h, hf => by
    simp only [pack] at h
    split at h
    · rename_i he
      split at h
      · rename_i y fro' own' h2
        cases h
        have hs := hr.slots t
        rw [he] at hs
        obtain ⟨hs', h3, h4, h5⟩ := pack_S hr hok h2 hf
        exact ⟨none :: hs', ⟨none, hs', rfl, ⟨rfl, hs⟩, h3⟩, h4, by simp [h5]⟩
      · cases h
    · rename_i id he
      split at h
      · rename_i E' t' xs hH
        split at h
        · rename_i ht; subst ht
          split at h
          · rename_i hE; subst hE
            split at h
            · rename_i y fro' own' h2
              cases h
              have hs := hr.slots t
              rw [he] at hs
              obtain ⟨hs', h3, h4, h5⟩ := pack_S hr hok h2 hf
              exact ⟨some id :: hs', ⟨some id, hs', rfl, ⟨hH, hs.2 t' xs.length (by rw [hH]; rfl)⟩, h3⟩, by simp [h4], by simp [h5]⟩
            · cases h
          · cases h
        · cases h
      · cases h
    · cases h

/-- The objects behind the border. -/
theorem fill_H (tm : Nat → Value) : ∀ {pk : PK} {x : PK.den pk} {hs : List (Option Nat)} (e : Nat → D) (H0 : Nat → Ob) (nx : Nat), PkS s g w ok' tm pk x hs → (∀ j, j < pk.length → g' (nx + j) = tm ((pk.map (·.1)).getD j 0)) →
    (∀ id, (id < nx ∨ nx + pk.length ≤ id) → (fillS e H0 nx pk x).2 id = H0 id) ∧
    (∀ id, nx ≤ id → id < nx + pk.length → (fillS e H0 nx pk x).2 id = H0 id ∨ ∃ E ty xs, (fillS e H0 nx pk x).2 id = .row E ty xs ∧ ((hs[id - nx]? = some none ∧ xs = [] ∧ g' id = .slice none 0 0) ∨ ∃ h, hs[id - nx]? = some (some h) ∧ s.H h = .row E ty xs ∧ g' id = g h))
  | [], x, hs, e, H0, nx, _, _ => ⟨fun _ _ => rfl, fun id h1 h2 => by simp at h2; omega⟩
  | (t, .v ty) :: r, x, hs, e, H0, nx, h, hg => by
    obtain ⟨cs, hs', rfl, _, _, h⟩ := h
    obtain ⟨h1, h2⟩ := fill_H tm (upd e t (.v (injD ty x.1))) H0 (nx + 1) h (fun j hj => by
      have := hg (j + 1) (by simpa using hj)
      rw [show nx + 1 + j = nx + (j + 1) by omega]; simpa using this)
    simp only [fillS, List.length_cons]
    refine ⟨fun id hid => h1 id (by omega), fun id h3 h4 => ?_⟩
    by_cases hid : id = nx
    · subst hid; exact .inl (h1 id (by omega))
    · rcases h2 id (by omega) (by omega) with h5 | h5
      · exact .inl h5
      · refine .inr ?_
        rw [show id - nx = (id - (nx + 1)) + 1 by omega]
        simpa using h5
  | (t, .own E ty) :: r, x, hs, e, H0, nx, h, hg => by
    obtain ⟨h, hs', rfl, hm, h'⟩ := h
    obtain ⟨h1, h2⟩ := fill_H tm (upd e t (.one (.own nx))) (upd H0 nx (.row E ty x.1)) (nx + 1) h' (fun j hj => by
      have := hg (j + 1) (by simpa using hj)
      rw [show nx + 1 + j = nx + (j + 1) by omega]; simpa using this)
    simp only [fillS, List.length_cons]
    refine ⟨fun id hid => (h1 id (by omega)).trans (upd_ne _ _ (by omega)), fun id h3 h4 => ?_⟩
    by_cases hid : id = nx
    · subst hid
      refine .inr ⟨E, ty, x.1, (h1 id (by omega)).trans (upd_same _ _ _), ?_⟩
      have hg0 : g' id = tm t := by have := hg 0 (by simp); simpa using this
      cases h with
      | none => exact .inl ⟨by simp, hm.1, hg0.trans hm.2⟩
      | some q => exact .inr ⟨q, by simp, hm.1, hg0.trans hm.2⟩
    · rcases h2 id (by omega) (by omega) with h5 | h5
      · exact .inl (h5.trans (upd_ne _ _ hid))
      · refine .inr ?_
        rw [show id - nx = (id - (nx + 1)) + 1 by omega]
        simpa using h5

/-- The slots behind the border. -/
theorem fill_e (tm : Nat → Value) : ∀ {pk : PK} {x : PK.den pk} {hs : List (Option Nat)} (e : Nat → D) (H0 : Nat → Ob) (nx : Nat), PkS s g w ok' tm pk x hs → (∀ j, j < pk.length → g' (nx + j) = tm ((pk.map (·.1)).getD j 0)) →
    (∀ (q n : Nat) (c : Ty) (ys : List c.den), some q ∈ hs → s.H q = .row n c ys → (g q).oneCell' = true) →
    (∀ t, DR g' H' w ok' (e t) (tm t)) → ∀ t, DR g' H' w ok' ((fillS e H0 nx pk x).1 t) (tm t)
  | [], x, hs, e, H0, nx, _, _, _, he => he
  | (t, .v ty) :: r, x, hs, e, H0, nx, h, hg, ho, he => by
    obtain ⟨cs, hs', rfl, hv, hen, h⟩ := h
    refine fill_e tm (upd e t (.v (injD ty x.1))) H0 (nx + 1) h (fun j hj => ?_) (fun q n c ys hm => ho q n c ys (.tail _ hm)) fun q => ?_
    · have := hg (j + 1) (by simpa using hj)
      rw [show nx + 1 + j = nx + (j + 1) by omega]; simpa using this
    · by_cases hq : q = t
      · subst hq; rw [upd_same, hv]; exact injD_R hen
      · rw [upd_ne _ _ hq]; exact he q
  | (t, .own E ty) :: r, x, hs, e, H0, nx, h, hg, ho, he => by
    obtain ⟨h, hs', rfl, hm, h'⟩ := h
    refine fill_e tm (upd e t (.one (.own nx))) (upd H0 nx (.row E ty x.1)) (nx + 1) h' (fun j hj => ?_) (fun q n c ys hm => ho q n c ys (.tail _ hm)) fun q => ?_
    · have := hg (j + 1) (by simpa using hj)
      rw [show nx + 1 + j = nx + (j + 1) by omega]; simpa using this
    · by_cases hq : q = t
      · subst hq
        rw [upd_same]
        have hg0 : g' nx = tm q := by have := hg 0 (by simp); simpa using this
        refine ⟨?_, fun _ _ _ => hg0.symm⟩
        cases h with
        | none => rw [hm.2]; rfl
        | some id => rw [hm.2]; exact ho id _ _ _ (.head _) hm.1
      · rw [upd_ne _ _ hq]; exact he q

theorem fill_ids : ∀ {pk : PK} {x : PK.den pk} (e : Nat → D) (H0 : Nat → Ob) (nx : Nat) (t : Nat), (fillS e H0 nx pk x).1 t = e t ∨ ∀ id ∈ ((fillS e H0 nx pk x).1 t).ids, nx ≤ id ∧ id < nx + pk.length
  | [], _, _, _, _, _ => .inl rfl
  | (q, .v ty) :: r, x, e, H0, nx, t => by
    simp only [fillS, List.length_cons]
    rcases fill_ids (pk := r) (x := x.2) (upd e q (.v (injD ty x.1))) H0 (nx + 1) t with h | h
    · by_cases hq : t = q
      · subst hq
        rw [h, upd_same]
        refine .inr fun id hid => ?_
        have : (D.v (injD ty x.1)).ids = [] := injD_ids ty x.1
        rw [this] at hid; cases hid
      · exact .inl (h.trans (upd_ne _ _ hq))
    · exact .inr fun id hid => by have := h id hid; omega
  | (q, .own E ty) :: r, x, e, H0, nx, t => by
    simp only [fillS, List.length_cons]
    rcases fill_ids (pk := r) (x := x.2) (upd e q (.one (.own nx))) (upd H0 nx (.row E ty x.1)) (nx + 1) t with h | h
    · by_cases hq : t = q
      · subst hq
        rw [h, upd_same]
        refine .inr fun id hid => ?_
        have : id = nx := by simpa [D.ids, D0.ids, D0.ls, L.ids] using hid
        omega
      · exact .inl (h.trans (upd_ne _ _ hq))
    · exact .inr fun id hid => by have := h id hid; omega

theorem fill_other : ∀ {pk : PK} {x : PK.den pk} (e : Nat → D) (H0 : Nat → Ob) (nx : Nat) (t : Nat), inPk (some pk) t = false → (fillS e H0 nx pk x).1 t = e t
  | [], _, _, _, _, _, _ => rfl
  | (q, .v ty) :: r, x, e, H0, nx, t, h => by
    simp only [inPk, List.any_cons, Bool.or_eq_false_iff] at h
    have hne : t ≠ q := fun e => by subst e; have := h.1; simp at this
    exact (fill_other (pk := r) _ _ _ t h.2).trans (upd_ne _ _ hne)
  | (q, .own E ty) :: r, x, e, H0, nx, t, h => by
    simp only [inPk, List.any_cons, Bool.or_eq_false_iff] at h
    have hne : t ≠ q := fun e => by subst e; have := h.1; simp at this
    exact (fill_other (pk := r) _ _ _ t h.2).trans (upd_ne _ _ hne)

theorem nodupB_spec : ∀ {l : List Nat}, nodupB l = true → l.Nodup
  | [], _ => List.nodup_nil
  | a :: r, h => by
    simp only [nodupB, Bool.and_eq_true, Bool.not_eq_true'] at h
    exact List.nodup_cons.2 ⟨fun hm => by have := h.1; simp [hm] at this, nodupB_spec h.2⟩

theorem hs_inj : ∀ {hs : List (Option Nat)}, (hs.filterMap id).Nodup → ∀ (i j h : Nat), hs[i]? = some (some h) → hs[j]? = some (some h) → i = j
  | [], _, i, j, h, hi, _ => by simp at hi
  | none :: hs, hn, i, j, h, hi, hj => by
    cases i with
    | zero => simp at hi
    | succ i =>
      cases j with
      | zero => simp at hj
      | succ j => rw [hs_inj (hs := hs) (by simpa using hn) i j h (by simpa using hi) (by simpa using hj)]
  | some q :: hs, hn, i, j, h, hi, hj => by
    have hn' : (q :: hs.filterMap id).Nodup := by simpa using hn
    obtain ⟨h1, h2⟩ := List.nodup_cons.1 hn'
    have mem : ∀ (i : Nat), hs[i]? = some (some q) → q ∈ hs.filterMap id := fun i h => List.mem_filterMap.2 ⟨some q, List.mem_of_getElem? h, rfl⟩
    cases i with
    | zero =>
      simp at hi; subst hi
      cases j with
      | zero => rfl
      | succ j => exact absurd (mem j (by simpa using hj)) h1
    | succ i =>
      cases j with
      | zero => simp at hj; subst hj; exact absurd (mem i (by simpa using hi)) h1
      | succ j => rw [hs_inj h2 i j h (by simpa using hi) (by simpa using hj)]

theorem chk_spec {mv fro own : List Nat} (h : chk s s' mv fro own = true) {new : List Nat} (hd : s'.dt = new ++ s.dt) : (∀ id ∈ new, s.nx ≤ id ∨ id ∈ mv) ∧ (∀ id ∈ fro, s.nx ≤ id ∨ id ∈ mv) ∧ (∀ id ∈ own, s.nx ≤ id ∨ id ∈ mv) ∧ own.Nodup ∧ ∀ id ∈ own, id ∉ fro := by
  unfold chk at h
  simp only [Bool.and_eq_true] at h
  obtain ⟨⟨h1, h2⟩, h3⟩ := h
  have key : ∀ id ∈ new ++ fro ++ own, s.nx ≤ id ∨ id ∈ mv := by
    have htk : s'.dt.take (s'.dt.length - s.dt.length) = new := by
      rw [hd, List.length_append, Nat.add_sub_cancel, List.take_left]
    rw [htk] at h1
    intro id hid
    have := List.all_eq_true.1 h1 id hid
    simp only [Bool.or_eq_true] at this
    rcases this with h | h
    · exact .inl (Nat.le_of_ble_eq_true h)
    · exact .inr (by simpa using h)
  refine ⟨fun id h => key id (by simp [h]), fun id h => key id (by simp [h]), fun id h => key id (by simp [h]), nodupB_spec h2, fun id hid hf => ?_⟩
  have := List.all_eq_true.1 h3 id hid
  simp [hf] at this

/-- Across a border. -/
theorem repack (hr0 : ∃ g0 a0 w0, Rel B nt (fun j => s.nx ≤ j) s g0 a0 w0) (hr : Rel B nt (fun j => s'.nx ≤ j) s' g a w) {wr : Nat → Bool} (hx : SExt wr s.nx s s') {pk : PK} {x : PK.den pk} {fro own : List Nat}
    (hp : pack s' pk = some (x, fro, own)) (hc : chk s s' (handles s pk) fro own = true) : ∃ g', Rel B nt (fun j => (unpack pk wr s x).nx ≤ j) (unpack pk wr s x) g' a w := by
  obtain ⟨g0, a0, w0, hr0⟩ := hr0
  obtain ⟨xe, xn, new, xd, xH⟩ := hx
  obtain ⟨c1, c2, c3, c4, c5⟩ := chk_spec hc xd
  let mv := handles s pk
  let tm : Nat → Value := fun t => a.tmps.getD t undef
  let g' : Nat → Value := fun id => if id < s.nx then g id else tm ((pk.map (·.1)).getD (id - s.nx) 0)
  have hgo : ∀ id, id < s.nx → g' id = g id := fun id h => if_pos h
  have hgn : ∀ j, j < pk.length → g' (s.nx + j) = tm ((pk.map (·.1)).getD j 0) := fun j _ => by
    show (if s.nx + j < s.nx then _ else _) = _
    rw [if_neg (by omega), Nat.add_sub_cancel_left]
  let H'' : Nat → Ob := (unpack pk wr s x).H
  -- what may be read behind the border
  have hold : ∀ id, id < s.nx → (id ∈ mv ∧ H'' id = .gone) ∨ (id ∉ mv ∧ H'' id = s'.H id) := by
    intro id hid
    have hH : H'' id = goneAll s.H mv id := by
      obtain ⟨hs, hps, _⟩ := pack_S (ok' := fun _ => True) hr (fun _ _ => trivial) hp (fun _ _ _ _ => trivial)
      exact (fill_H (g' := g') tm _ _ s.nx hps hgn).1 id (.inl hid)
    by_cases hm : id ∈ mv
    · exact .inl ⟨hm, hH.trans ((goneAll_at mv s.H id).1 hm)⟩
    · refine .inr ⟨hm, hH.trans (((goneAll_at mv s.H id).2 hm).trans (xH id hid fun hn => ?_).symm)⟩
      rcases c1 id hn with h | h
      · omega
      · exact hm h
  have hcmp : ∀ id, id < s.nx → cmp g s'.H g' H'' id := by
    intro id hid
    rcases hold id hid with ⟨_, h⟩ | ⟨_, h⟩
    · exact .inl (by rw [h]; rfl)
    · exact .inr ⟨by rw [h], hgo id hid⟩
  -- the objects behind the border, told by those ahead of it
  have hnewobj : ∀ id, s.nx ≤ id → H'' id = .gone ∨ ∃ E ty xs, H'' id = .row E ty xs ∧ ((xs = [] ∧ g' id = .slice none 0 0) ∨ ∃ h, h ∈ own ∧ s'.H h = .row E ty xs ∧ g' id = g h) := by
    intro id hid
    obtain ⟨hs, hps, hown, hlen⟩ := pack_S (ok' := fun _ => True) hr (fun _ _ => trivial) hp (fun _ _ _ _ => trivial)
    obtain ⟨f1, f2⟩ := fill_H (g' := g') tm (fun i => bif wr i then .one .undef else s.e i) (goneAll s.H mv) s.nx hps hgn
    have h0 : goneAll s.H mv id = .gone := by
      by_cases hm : id ∈ mv
      · exact (goneAll_at mv s.H id).1 hm
      · exact ((goneAll_at mv s.H id).2 hm).trans (hr0.fresh id hid)
    by_cases hlt : id < s.nx + pk.length
    · rcases f2 id hid hlt with h | ⟨E, ty, xs, h1, h2⟩
      · exact .inl (h.trans h0)
      · refine .inr ⟨E, ty, xs, h1, ?_⟩
        rcases h2 with ⟨_, h3, h4⟩ | ⟨h, h3, h4, h5⟩
        · exact .inl ⟨h3, h4⟩
        · exact .inr ⟨h, hown ▸ List.mem_filterMap.2 ⟨some h, List.mem_of_getElem? h3, rfl⟩, h4, h5⟩
    · exact .inl ((f1 id (.inr (by omega))).trans h0)
  -- who owns what
  have hown' : ∀ i k, owned g' H'' i = some k → (i < s.nx ∧ i ∉ mv ∧ owned g s'.H i = some k) ∨ (s.nx ≤ i ∧ ∃ h, h ∈ own ∧ owned g s'.H h = some k) := by
    intro i k hi
    by_cases hlt : i < s.nx
    · rcases hold i hlt with ⟨_, h⟩ | ⟨hm, h⟩
      · simp only [owned, h] at hi; cases hi
      · exact .inl ⟨hlt, hm, by simpa only [owned, h, hgo i hlt] using hi⟩
    · rcases hnewobj i (by omega) with h | ⟨E, ty, xs, h, h2⟩
      · simp only [owned, h] at hi; cases hi
      · simp only [owned, h] at hi
        rcases h2 with ⟨_, h3⟩ | ⟨q, hq, hH, hg⟩
        · rw [h3] at hi; simp [blkOf] at hi
        · exact .inr ⟨by omega, q, hq, by simp only [owned, hH]; rw [← hg]; exact hi⟩
  have hok : ∀ k, okB B g s'.H w k → okB B g' H'' w k := by
    intro k hk
    refine ⟨hk.1, fun i hi => ?_, hk.2.2⟩
    rcases hown' i k hi with ⟨_, _, h⟩ | ⟨_, q, _, h⟩
    · exact hk.2.1 i h
    · exact hk.2.1 q h
  have hfro : ∀ id ∈ fro, ∀ k, owned g s'.H id = some k → okB B g' H'' w k := by
    intro id hid k hk
    refine ⟨OB.lt (hr.objs id) rfl hk, fun i hi => ?_, B.al k (hr.base id k hk)⟩
    rcases hown' i k hi with ⟨h1, h2, h⟩ | ⟨_, q, hq, h⟩
    · have e := hr.disj i id k h hk
      subst e
      rcases c2 i hid with h3 | h3
      · omega
      · exact h2 h3
    · have e := hr.disj q id k h hk
      subst e
      exact c5 q hq hid
  obtain ⟨hs, hps, hown, hlen⟩ := pack_S (ok' := okB B g' H'' w) hr hok hp hfro
  have hslots0 : ∀ t, DR g' H'' w (okB B g' H'' w) ((fun i => bif wr i then (D.one .undef) else s.e i) t) (tm t) := by
    intro t
    show DR g' H'' w _ (bif wr t then (D.one .undef) else s.e t) (tm t)
    cases hw : wr t with
    | true => exact trivial
    | false =>
      show DR g' H'' w _ (s.e t) (tm t)
      have h := hr.slots t
      rw [xe t hw] at h
      exact DR.mono (fun k hk => ⟨hok k hk, rfl⟩) (fun id hid => hcmp id (by have := hr0.sold t id hid; omega)) h
  have hinj := hs_inj (hs := hs) (by rw [hown]; exact c4)
  obtain ⟨f1, f2⟩ := fill_H (g' := g') tm (fun i => bif wr i then .one .undef else s.e i) (goneAll s.H mv) s.nx hps hgn
  refine ⟨g', ⟨fun t => ?_, fun t id hid hf => ?_, fun id => ?_, fun id T' ls hH l hl j hj hf => ?_, fun i j k hi hj => ?_, fun i k hi => ?_, hr.frm, fun id hid => ?_, hr.size, hr.dfr⟩⟩
  · exact fill_e tm _ _ s.nx hps hgn (fun id n c xs hm hH => by
      have ho := hr.objs id
      rw [hH] at ho
      obtain ⟨A, c', hv, _⟩ := RowO.slice_ ho
      rw [hv]; rfl) hslots0 t
  · have hid' : id ∈ ((fillS (fun i => bif wr i then .one .undef else s.e i) (goneAll s.H mv) s.nx pk x).1 t).ids := hid
    have hf' : s.nx + pk.length ≤ id := hf
    rcases fill_ids (pk := pk) (x := x) (fun i => bif wr i then .one .undef else s.e i) (goneAll s.H mv) s.nx t with h | h
    · rw [h] at hid'
      have hid2 : id ∈ (bif wr t then (D.one .undef) else s.e t).ids := hid'
      cases hw : wr t with
      | true => rw [hw] at hid2; simp [D.ids, D0.ids, D0.ls, L.ids] at hid2
      | false => rw [hw] at hid2; have := hr0.sold t id hid2; omega
    · have := h id hid'; omega
  · by_cases hlt : id < s.nx
    · rcases hold id hlt with ⟨_, h⟩ | ⟨hm, h⟩
      · show OB _ _ _ _ id (H'' id)
        rw [h]; trivial
      · show OB _ _ _ _ id (H'' id)
        rw [h]
        have hsH : s'.H id = s.H id := xH id hlt fun hn => by
          rcases c1 id hn with h' | h'
          · omega
          · exact hm h'
        refine OB.mono (fun k hk => ⟨hok k hk, rfl⟩) (hgo id hlt) rfl (fun k _ => rfl) (fun T' ls e l hl j hj => hcmp j ?_) (hr.objs id)
        have := hr0.bold id T' ls (hsH ▸ e) l hl j hj
        omega
    · show OB _ _ _ _ id (H'' id)
      rcases hnewobj id (by omega) with h | ⟨E, ty, xs, h, h2⟩
      · rw [h]; trivial
      · rw [h]
        show RowO w _ E ty xs (g' id)
        rcases h2 with ⟨h3, h4⟩ | ⟨q, hq, hH, hg⟩
        · rw [h3, h4]; exact ⟨[], trivial, World.ownsRow_nil _ _ _ _⟩
        · rw [hg]
          have ho := hr.objs q
          rw [hH] at ho
          exact RowO.mono (fun k hk => ⟨hok k hk, rfl⟩) (fun _ _ => rfl) ho
  · have hH' : H'' id = .box T' ls := hH
    have hf' : s.nx + pk.length ≤ j := hf
    by_cases hlt : id < s.nx
    · rcases hold id hlt with ⟨_, h⟩ | ⟨hm, h⟩
      · rw [h] at hH'; cases hH'
      · have hsH : s'.H id = s.H id := xH id hlt fun hn => by
          rcases c1 id hn with h' | h'
          · omega
          · exact hm h'
        rw [h, hsH] at hH'
        have := hr0.bold id T' ls hH' l hl j hj
        omega
    · rcases hnewobj id (by omega) with h | ⟨E, ty, xs, h, _⟩ <;> rw [h] at hH' <;> cases hH'
  · have hi' : owned g' H'' i = some k := hi
    have hj' : owned g' H'' j = some k := hj
    rcases hown' i k hi' with ⟨h1, h2, h3⟩ | ⟨h1, p, hp', h3⟩ <;> rcases hown' j k hj' with ⟨q1, q2, q3⟩ | ⟨q1, q, hq, q3⟩
    · exact hr.disj i j k h3 q3
    · have e := hr.disj i q k h3 q3
      subst e
      rcases c3 i hq with h | h
      · omega
      · exact absurd h h2
    · have e := hr.disj j p k q3 h3
      subst e
      rcases c3 j hp' with h | h
      · omega
      · exact absurd h q2
    · -- both are new: the same row was handed on but once
      have key : ∀ i, s.nx ≤ i → owned g' H'' i = some k → ∃ h, hs[i - s.nx]? = some (some h) ∧ owned g s'.H h = some k := by
        intro i hin hik
        by_cases hlt : i < s.nx + pk.length
        · rcases f2 i hin hlt with h | ⟨E, ty, xs, h, h2⟩
          · have h0 : goneAll s.H mv i = .gone := by
              by_cases hm : i ∈ mv
              · exact (goneAll_at mv s.H i).1 hm
              · exact ((goneAll_at mv s.H i).2 hm).trans (hr0.fresh i hin)
            have : H'' i = .gone := h.trans h0
            simp only [owned, this] at hik; cases hik
          · have hHi : H'' i = .row E ty xs := h
            rcases h2 with ⟨_, _, h5⟩ | ⟨q, hq, hH, hg⟩
            · simp only [owned, hHi, h5] at hik; simp [blkOf] at hik
            · refine ⟨q, hq, ?_⟩
              simp only [owned, hHi] at hik
              simp only [owned, hH]; rw [← hg]; exact hik
        · have h0 : goneAll s.H mv i = .gone := by
            by_cases hm : i ∈ mv
            · exact (goneAll_at mv s.H i).1 hm
            · exact ((goneAll_at mv s.H i).2 hm).trans (hr0.fresh i hin)
          have : H'' i = .gone := (f1 i (.inr (by omega))).trans h0
          simp only [owned, this] at hik; cases hik
      obtain ⟨h', e1, e2⟩ := key i h1 hi'
      obtain ⟨q', e3, e4⟩ := key j q1 hj'
      have e := hr.disj h' q' k e2 e4
      subst e
      have := hinj _ _ _ e1 e3
      omega
  · have hi' : owned g' H'' i = some k := hi
    rcases hown' i k hi' with ⟨_, _, h⟩ | ⟨_, q, _, h⟩
    · exact hr.base i k h
    · exact hr.base q k h
  · have hid' : s.nx + pk.length ≤ id := hid
    show H'' id = .gone
    have h0 : goneAll s.H mv id = .gone := by
      by_cases hm : id ∈ mv
      · exact (goneAll_at mv s.H id).1 hm
      · exact ((goneAll_at mv s.H id).2 hm).trans (hr0.fresh id (by omega))
    exact (f1 id (.inr hid')).trans h0

/-- What changes across a border. -/
theorem unpack_ext {pk : PK} {wr wr' : Nat → Bool} {x : PK.den pk} (hw : ∀ t, wr' t = false → wr t = false ∧ inPk (some pk) t = false) : SExt wr' s.nx s (unpack pk wr s x) := by
  refine ⟨fun t ht => ?_, Nat.le_add_right _ _, handles s pk, rfl, fun id hid hn => ?_⟩
  · obtain ⟨h1, h2⟩ := hw t ht
    refine (fill_other (pk := pk) _ _ _ t h2).trans ?_
    show (bif wr t then (D.one .undef) else s.e t) = s.e t
    rw [h1]; rfl
  · have : ∀ {pk : PK} {x : PK.den pk} (e : Nat → D) (H0 : Nat → Ob) (nx : Nat), id < nx → (fillS e H0 nx pk x).2 id = H0 id := by
      intro pk
      induction pk with
      | nil => intro x e H0 nx _; rfl
      | cons p r ih =>
        intro x e H0 nx hlt
        obtain ⟨t, kk⟩ := p
        cases kk with
        | v ty => exact ih _ _ _ (by omega)
        | own E ty => exact (ih _ _ _ (by omega)).trans (upd_ne _ _ (by omega))
    exact (this _ _ _ hid).trans ((goneAll_at (handles s pk) s.H id).2 hn)

end Go.Proofs.Fr

/- The ways through a body; the function as a whole. -/
namespace Go.Proofs.Fr
open Go Go.RowKit
variable {R : Type} {P : Program} {T : Nat → Option Sp} {nt : Nat} {ann : Nat → Option PK} {B : Bs} {s s' : S} {g g' : Nat → Value} {a : Act} {w : World} {H H' : Nat → Ob} {ok ok' : Nat → Prop} {Q : Exit → Act → World → Prop}

def toExit : Ex → Exit
  | .normal => .normal
  | .exit id => .exit id
  | .ret => .ret

abbrev RelS (B : Bs) (nt : Nat) (s : S) (g : Nat → Value) (a : Act) (w : World) : Prop := Rel B nt (fun j => s.nx ≤ j) s g a w

def KOk (B : Bs) (nt : Nat) (wr : Nat → Bool) (s : S) (k : Ex → S → Option R) (r : R) (Q : Exit → Act → World → Prop) : Prop :=
  ∀ ex s' g' a' w', k ex s' = some r → SExt wr s.nx s s' → RelS B nt s' g' a' w' → Q (toExit ex) a' w'

theorem packK_some {pk : PK} {k : PK.den pk → Option R} {r : R} (h : packK pk s s' k = some r) : ∃ x fro own, pack s' pk = some (x, fro, own) ∧ chk s s' (handles s pk) fro own = true ∧ k x = some r := by
  unfold packK at h
  cases hp : pack s' pk with
  | none => rw [hp] at h; cases h
  | some q =>
    obtain ⟨x, fro, own⟩ := q
    rw [hp] at h
    simp only at h
    cases hc : chk s s' (handles s pk) fro own with
    | false => rw [hc] at h; cases h
    | true => rw [hc] at h; exact ⟨x, fro, own, rfl, hc, h⟩

theorem joinK_sound {pk? : Option PK} {wr : Nat → Bool} (hpk : ∀ t, wr t = false → inPk pk? t = false) {k : Ex → S → Option R} {r : R} {m : (Ex → S → Option R) → Option R} (hr0 : RelS B nt s g a w) (h : joinK pk? wr s k m = some r) (hk : KOk B nt wr s k r Q) :
    ∃ k', m k' = some r ∧ KOk B nt wr s k' r Q := by
  cases pk? with
  | none => exact ⟨k, h, hk⟩
  | some pk =>
    refine ⟨_, h, fun ex s' g' a' w' hx hext hrel => ?_⟩
    cases ex with
    | normal =>
      obtain ⟨x, fro, own, hp, hc, hj⟩ := packK_some (R := R) hx
      obtain ⟨g'', hrel'⟩ := repack ⟨g, a, w, hr0⟩ hrel hext hp hc
      exact hk .normal _ g'' a' w' hj (unpack_ext fun t ht => ⟨ht, hpk t ht⟩) hrel'
    | exit id => exact hk (.exit id) s' g' a' w' hx hext hrel
    | ret => exact hk .ret s' g' a' w' hx hext hrel

theorem SExt.wide {wr wr' : Nat → Bool} {lim : Nat} (h : SExt wr lim s s') (hw : ∀ t, wr' t = false → wr t = false) : SExt wr' lim s s' := ⟨fun t ht => h.1 t (hw t ht), h.2⟩

theorem ev_sound (hT : ∀ f sp, T f = some sp → Sound P f sp) : ∀ (c : Code) (p : Nat) {s : S} {g : Nat → Value} {a : Act} {w : World} (k : Ex → S → Option R) (r : R) (Q : Exit → Act → World → Prop),
    RelS B nt s g a w → evC P T nt ann c p s k = some r → KOk B nt (wrC ann c p) s k r Q → c.wp P Q a w
  | .skip, p, s, g, a, w, k, r, Q, hr, h, hk => wp_skip (hk .normal s g a w h (SExt.refl _ _ _) hr)
  | .label _, p, s, g, a, w, k, r, Q, hr, h, hk => wp_label (hk .normal s g a w h (SExt.refl _ _ _) hr)
  | .exit id, p, s, g, a, w, k, r, Q, hr, h, hk => wp_exit (hk (.exit id) s g a w h (SExt.refl _ _ _) hr)
  | .ret, p, s, g, a, w, k, r, Q, hr, h, hk => wp_ret (hk .ret s g a w h (SExt.refl _ _ _) hr)
  | .seq x y, p, s, g, a, w, k, r, Q, hr, h, hk => by
    refine wp_seq (ev_sound hT x (2 * p) _ r _ hr h fun ex s' g' a' w' hx hext hrel => ?_)
    have hw1 : ∀ t, wrC ann (.seq x y) p t = false → wrC ann x (2 * p) t = false := fun t ht => by simp only [wrC, Bool.or_eq_false_iff] at ht; exact ht.1
    have hw2 : ∀ t, wrC ann (.seq x y) p t = false → wrC ann y (2 * p + 1) t = false := fun t ht => by simp only [wrC, Bool.or_eq_false_iff] at ht; exact ht.2
    cases ex with
    | normal =>
      refine ev_sound hT y (2 * p + 1) k r Q hrel hx fun ex2 s2 g2 a2 w2 hx2 hext2 hrel2 => ?_
      exact hk ex2 s2 g2 a2 w2 hx2 (hext.trans hext2 hext.2.1 hw1 hw2) hrel2
    | exit id => exact hk (.exit id) s' g' a' w' hx (hext.wide hw1) hrel
    | ret => exact hk .ret s' g' a' w' hx (hext.wide hw1) hrel
  | .region id ops dr, p, s, g, a, w, k, r, Q, hr, h, hk => by
    obtain ⟨k', hk1, hk2⟩ := joinK_sound (fun t ht => by simp only [wrC, Bool.or_eq_false_iff] at ht; exact ht.2) hr h hk
    obtain ⟨s', h1, h2, h3⟩ := region_sound (Q := Q) (id := id) hT hr hk1
    exact h3 fun g' a' w' hrel => hk2 .normal s' g' a' w' h1 (h2.wide fun t ht => by simp only [wrC, Bool.or_eq_false_iff] at ht; exact ht.1) hrel
  | .cond c x y, p, s, g, a, w, k, r, Q, hr, h, hk => by
    obtain ⟨k', hk1, hk2⟩ := joinK_sound (fun t ht => by simp only [wrC, Bool.or_eq_false_iff] at ht; exact ht.2) hr h hk
    have hw1 : ∀ t, wrC ann (.cond c x y) p t = false → wrC ann x (2 * p) t = false := fun t ht => by simp only [wrC, Bool.or_eq_false_iff] at ht; exact ht.1.1
    have hw2 : ∀ t, wrC ann (.cond c x y) p t = false → wrC ann y (2 * p + 1) t = false := fun t ht => by simp only [wrC, Bool.or_eq_false_iff] at ht; exact ht.1.2
    obtain ⟨hc, _⟩ := ev_R hr c
    split at hk1
    · rename_i b hb
      rw [hb] at hc
      have hcv : a.eval c = .bool b := hc
      refine wp_cond hcv ?_
      cases b with
      | true =>
        simp only [if_true] at hk1 ⊢
        exact ev_sound hT x (2 * p) k' r Q hr hk1 fun ex s' g' a' w' hx hext hrel => hk2 ex s' g' a' w' hx (hext.wide hw1) hrel
      | false =>
        simp only [Bool.false_eq_true, if_false] at hk1 ⊢
        exact ev_sound hT y (2 * p + 1) k' r Q hr hk1 fun ex s' g' a' w' hx hext hrel => hk2 ex s' g' a' w' hx (hext.wide hw2) hrel
    · rename_i hb
      rw [hb] at hc
      obtain ⟨b, hcv⟩ : ∃ b, a.eval c = .bool b := hc
      refine wp_cond hcv ?_
      cases b with
      | true =>
        simp only [if_true]
        exact ev_sound hT x (2 * p) k' r Q hr (both_left hk1) fun ex s' g' a' w' hx hext hrel => hk2 ex s' g' a' w' hx (hext.wide hw1) hrel
      | false =>
        simp only [Bool.false_eq_true, if_false]
        exact ev_sound hT y (2 * p + 1) k' r Q hr (both_right hk1) fun ex s' g' a' w' hx hext hrel => hk2 ex s' g' a' w' hx (hext.wide hw2) hrel
    · cases hk1
  | .block id b, p, s, g, a, w, k, r, Q, hr, h, hk => by
    obtain ⟨k', hk1, hk2⟩ := joinK_sound (fun t ht => by simp only [wrC, Bool.or_eq_false_iff] at ht; exact ht.2) hr h hk
    have hw1 : ∀ t, wrC ann (.block id b) p t = false → wrC ann b (2 * p) t = false := fun t ht => by simp only [wrC, Bool.or_eq_false_iff] at ht; exact ht.1
    refine wp_block (ev_sound hT b (2 * p) _ r _ hr hk1 fun ex s' g' a' w' hx hext hrel => ?_)
    cases ex with
    | normal => exact hk2 .normal s' g' a' w' hx (hext.wide hw1) hrel
    | exit i =>
      simp only at hx
      show (if i = id then Q .normal a' w' else Q (.exit i) a' w')
      by_cases e : i = id
      · rw [if_pos e] at hx ⊢; exact hk2 .normal s' g' a' w' hx (hext.wide hw1) hrel
      · rw [if_neg e] at hx ⊢; exact hk2 (.exit i) s' g' a' w' hx (hext.wide hw1) hrel
    | ret => exact hk2 .ret s' g' a' w' hx (hext.wide hw1) hrel
  | .loop b, p, s, g, a, w, k, r, Q, hr, h, hk => by
    simp only [evC] at h
    split at h
    · cases h
    · rename_i pk hann
      have hw1 : ∀ t, wrC ann (.loop b) p t = false → wrC ann b (2 * p) t = false := fun t ht => by simp only [wrC, Bool.or_eq_false_iff] at ht; exact ht.1
      have hw2 : ∀ t, wrC ann (.loop b) p t = false → inPk (some pk) t = false := fun t ht => by simp only [wrC, Bool.or_eq_false_iff] at ht; rw [← hann]; exact ht.2
      have hue : ∀ x : PK.den pk, SExt (wrC ann (.loop b) p) s.nx s (unpack pk (wrC ann (.loop b) p) s x) := fun x => unpack_ext fun t ht => ⟨ht, hw2 t ht⟩
      obtain ⟨x0, fro, own, hp, hc, hit⟩ := packK_some h
      obtain ⟨g1, hr1⟩ := repack (wr := wrC ann (.loop b) p) ⟨g, a, w, hr⟩ hr (SExt.refl _ _ _) hp hc
      have key : ∀ (n : Nat) (x : PK.den pk) (g : Nat → Value) (a : Act) (w : World), RelS B nt (unpack pk (wrC ann (.loop b) p) s x) g a w →
          iterK n (fun x rec => evC P T nt ann b (2 * p) (unpack pk (wrC ann (.loop b) p) s x) fun ex s' => match ex with
            | .normal => packK pk s s' rec
            | e => k e s') x = some r → Code.rounds P b Q n a w := by
        intro n
        induction n with
        | zero => intro x g a w _ hi; cases hi
        | succ n ih =>
          intro x g2 a2 w2 hrel hi
          simp only [iterK] at hi
          refine ev_sound hT b (2 * p) _ r _ hrel hi fun ex s' g' a' w' hx hext hrel' => ?_
          have hext2 : SExt (wrC ann (.loop b) p) s.nx s s' := (hue x).trans hext (hue x).2.1 (fun _ h => h) hw1
          cases ex with
          | normal =>
            obtain ⟨x', fro', own', hp', hc', hit'⟩ := packK_some (R := R) hx
            obtain ⟨g3, hr3⟩ := repack (wr := wrC ann (.loop b) p) ⟨g, _, _, hr⟩ hrel' hext2 hp' hc'
            exact ih x' g3 a' w' hr3 hit'
          | exit id => exact hk (.exit id) s' g' a' w' hx hext2 hrel'
          | ret => exact hk .ret s' g' a' w' hx hext2 hrel'
      exact wp_loop_rounds _ (key _ x0 g1 a w hr1 hit)
  | .rangeFunc _ _ _ _, p, s, g, a, w, k, r, Q, hr, h, hk => by simp only [evC] at h; cases h
  | .scope _, p, s, g, a, w, k, r, Q, hr, h, hk => by simp only [evC] at h; cases h
  | .goto _, p, s, g, a, w, k, r, Q, hr, h, hk => by simp only [evC] at h; cases h
  | .refuse _, p, s, g, a, w, k, r, Q, hr, h, hk => by simp only [evC] at h; cases h

end Go.Proofs.Fr

/- A function does what its plain form says. -/
namespace Go.Proofs.Fr
open Go Go.RowKit
variable {R : Type} {P : Program} {T : Nat → Option Sp} {nt : Nat} {ann : Nat → Option PK} {B : Bs} {fr : Nat → Prop} {s s' : S} {g g' : Nat → Value} {a : Act} {w : World} {H H' : Nat → Ob} {ok ok' : Nat → Prop} {Q : Exit → Act → World → Prop}

theorem args_slots {g : Nat → Value} {H : Nat → Ob} : ∀ {ks : List K} {x : dens ks} {vs : List Value} (i : Nat) (e : Nat → D) (tm : Nat → Value), ArgsR w ok ks x vs → (∀ t, t < i → DR g H w ok (e t) (tm t)) → (∀ t, i + vs.length ≤ t → DR g H w ok (e t) (tm t)) → (∀ j v, vs[j]? = some v → tm (i + j) = v) →
    (∀ t, (e t).ids = []) → (∀ t, DR g H w ok (inArgs ks x i e t) (tm t)) ∧ ∀ t, (inArgs ks x i e t).ids = []
  | [], x, vs, i, e, tm, h, h1, h2, _, hid => by
    subst h
    exact ⟨fun t => by by_cases hlt : t < i; exact h1 t hlt; exact h2 t (by simp; omega), hid⟩
  | .v ty :: r, x, vs, i, e, tm, h, h1, h2, h3, hid => by
    obtain ⟨cs, rest, rfl, hen, h⟩ := h
    have htm : tm i = mkV ty.isAgg cs := by have := h3 0 (mkV ty.isAgg cs) rfl; simpa using this
    refine args_slots (ks := r) (i + 1) (upd e i (.v (injD ty x.1))) tm h (fun t ht => ?_) (fun t ht => ?_) (fun j v hj => ?_) (fun t => ?_)
    · by_cases hti : t = i
      · subst hti; rw [upd_same, htm]; exact injD_R hen
      · rw [upd_ne _ _ hti]; exact h1 t (by omega)
    · rw [upd_ne _ _ (by omega)]; exact h2 t (by simp; omega)
    · have := h3 (j + 1) v (by simpa using hj)
      rw [show i + 1 + j = i + (j + 1) by omega]; exact this
    · by_cases hti : t = i
      · subst hti; rw [upd_same]; exact injD_ids ty x.1
      · rw [upd_ne _ _ hti]; exact hid t
  | .own .. :: _, _, _, _, _, _, h, _, _, _, _ => h.elim

theorem start_rel {f : Func} {ks : List K} {x : dens ks} {vs : List Value} (hok : ∀ k, ok k → k < w.heap.size) (h : ArgsR w ok ks x vs) :
    RelS ⟨w, fun k => ok k ∨ w.heap.size ≤ k, fun _ => .inr⟩ f.ntmps (startS ks x) (fun _ => undef) { tmps := vs.toArray ++ Array.replicate (f.ntmps - vs.toArray.size) undef, defers := [] } w := by
  have ho : ∀ i, owned (fun _ => undef) (startS ks x).H i = none := fun i => rfl
  have hargs : ArgsR w (okB ⟨w, fun k => ok k ∨ w.heap.size ≤ k, fun _ => .inr⟩ (fun _ => undef) (startS ks x).H w) ks x vs := by
    have : ∀ {ks : List K} {x : dens ks} {vs : List Value} {ok' : Nat → Prop}, (∀ k, ok k → ok' k) → ArgsR w ok ks x vs → ArgsR w ok' ks x vs := by
      intro ks
      induction ks with
      | nil => intro x vs ok' _ h; exact h
      | cons kk r ih =>
        intro x vs ok' hk h
        cases kk with
        | v ty => obtain ⟨cs, rest, e, hen, h⟩ := h; exact ⟨cs, rest, e, En.mono (fun k hk' => ⟨hk k hk', rfl⟩) hen, ih hk h⟩
        | own => exact h.elim
    exact this (fun k hk => ⟨hok k hk, fun i => by rw [ho i]; simp, .inl hk⟩) h
  have hget : ∀ j, (vs.toArray ++ Array.replicate (f.ntmps - vs.toArray.size) undef).getD j undef = vs.getD j undef := by
    intro j
    simp only [Array.getD_eq_getD_getElem?, List.getD_eq_getElem?_getD, Array.getElem?_append, List.size_toArray, List.getElem?_toArray]
    by_cases hj : j < vs.length
    · simp [hj]
    · simp only [hj, if_false]
      rw [List.getElem?_eq_none (by omega)]
      cases hq : (Array.replicate (f.ntmps - vs.length) undef)[j - vs.length]? with
      | none => rfl
      | some v =>
        obtain ⟨_, e⟩ := Array.getElem?_eq_some_iff.1 hq
        simp at e
        subst e; rfl
  obtain ⟨s1, s2⟩ := args_slots (g := fun _ => undef) (H := (startS ks x).H) (ks := ks) (x := x) (vs := vs) 0 (fun _ => .one .skip) (fun j => (vs.toArray ++ Array.replicate (f.ntmps - vs.toArray.size) undef).getD j undef) hargs (fun t ht => by omega) (fun t ht => by
      simp only [hget]
      rw [List.getD_eq_getElem?_getD, List.getElem?_eq_none (by omega)]; rfl) (fun j v hj => by
      simp only [hget, Nat.zero_add]
      rw [List.getD_eq_getElem?_getD, hj]; rfl) (fun _ => rfl)
  refine ⟨s1, fun t id hid => ?_, fun id => trivial, fun id T' ls e => (by cases e), fun i j k hi => ?_, fun i k hi => ?_, Below.refl _ _, fun _ _ => rfl, ?_, rfl⟩
  · have := s2 t
    have hid' : id ∈ (inArgs ks x 0 (fun _ => D.one L.skip) t).ids := hid
    rw [this] at hid'; cases hid'
  · rw [ho i] at hi; cases hi
  · rw [ho i] at hi; cases hi
  · simp only [Array.size_append, List.size_toArray, Array.size_replicate]; omega

def resOp (tmps : Array Value) : ResultVar → Sem Value
  | .tmp t => pure (tmps.getD t undef)
  | .cell a t => do loadVar t (← asAddr (tmps.getD a undef))

theorem results_eq (fn : Func) (tmps : Array Value) : results fn tmps = (do let vs ← fn.results.mapM (resOp tmps); pure (if h : vs.size = 1 then vs[0] else .tuple vs)) := by
  unfold results
  congr 1

theorem res_one (hr : Rel B nt fr s g a w) {rv : ResultVar} {l : List ResultVar} {ds : List D} (h : resVals P s (rv :: l) = some ds) : ∃ d ds', ds = d :: ds' ∧ resVals P s l = some ds' ∧ ∃ v, (resOp a.tmps rv).run P w = .ok v w ∧ DR g s.H w (okB B g s.H w) d v := by
  cases rv with
  | tmp t =>
    simp only [resVals] at h
    split at h
    · rename_i ds' hds
      cases h
      exact ⟨_, ds', rfl, hds, _, rfl, hr.slots t⟩
    · cases h
  | cell t T0 =>
    simp only [resVals] at h
    split at h
    · rename_i l ti he hti
      split at h
      · rename_i ls off hc
        split at h
        · rename_i q hq
          split at h
          · rename_i d ds' hm hds
            cases h
            refine ⟨d, ds', rfl, hds, ?_⟩
            have h1 := hr.slots t
            rw [he] at h1
            obtain ⟨kk, base, cs, hva, ha, hcell⟩ := cellsAt_R (vw := fun j => (s.H j).vw) (ok' := fun _ => True) (fun id => .inr rfl) hr.objs h1 hc (fun _ _ => trivial)
            obtain ⟨hl, hq2, _⟩ := cut_R ha hq
            obtain ⟨hD, _⟩ := mkD_R hq2 hm
            have hlen : ((cs.drop off).take (if isAggD ti.desc then ti.size else 1)).length = if isAggD ti.desc then ti.size else 1 := by rw [← hq2.len, hl]
            refine ⟨_, ?_, hD⟩
            have hload := run_loadVar_cells (P := P) hti w kk (base + off) _ hlen (fun j u hj => by
              have hj' : cs[off + j]? = some u := by
                have hlt := (List.getElem?_eq_some_iff.1 hj).1
                rw [List.getElem?_take_of_lt (by simp only [List.length_take] at hlt; omega)] at hj
                simpa [List.getElem?_drop] using hj
              rw [Nat.add_assoc]; exact hcell _ _ hj')
            simp only [resOp, hva, asAddr, Sem.run_bind, Sem.run_pure, Result.andThen_ok, hload]
          · cases h
        · cases h
      · cases h
    · cases h

theorem res_run (hr : Rel B nt fr s g a w) : ∀ {l : List ResultVar} {ds : List D}, resVals P s l = some ds → ∃ vs, (l.mapM (resOp a.tmps)).run P w = .ok vs w ∧ All2 (DR g s.H w (okB B g s.H w)) ds vs
  | [], ds, h => by simp only [resVals] at h; cases h; exact ⟨[], rfl, trivial⟩
  | rv :: l, ds, h => by
    obtain ⟨d, ds', rfl, hds, v, hv, hd⟩ := res_one hr h
    obtain ⟨vs, h1, h2⟩ := res_run hr hds
    refine ⟨v :: vs, ?_, hd, h2⟩
    rw [List.mapM_cons]
    simp only [Sem.run_bind, hv, Sem.run_pure, Result.andThen_ok, h1]

theorem pkOuts_R (hr : Rel B nt fr s g a w) : ∀ {ks : List K} {ds : List D} {vs : List Value} {y : dens ks} {fro own : List Nat}, pkOuts s.H ks ds = some (y, fro, own) → All2 (DR g s.H w (okB B g s.H w)) ds vs → (∀ k, okB B g s.H w k → ok' k) → (∀ id ∈ fro, ∀ k, owned g s.H id = some k → ok' k) →
    OutsR w ok' ks y vs (own.filterMap (owned g s.H))
  | [], ds, vs, y, fro, own, h, ha, _, _ => by
    simp only [pkOuts] at h
    split at h
    · cases h; exact ⟨All2.nil_l ha, rfl⟩
    · cases h
  | .v ty :: r, ds, vs, y, fro, own, h, ha, hok, hf => by
    simp only [pkOuts] at h
    split at h
    · rename_i d ds
      split at h
      · rename_i hagg
        split at h
        · rename_i x1 i1 h1
          split at h
          · rename_i y2 f2 o2 h2
            cases h
            obtain ⟨v, rest, rfl, hd, hrest⟩ := ha.cons_l
            obtain ⟨cs, rfl, hen⟩ := mkV_of (vw := fun j => (s.H j).vw) (fun _ _ _ _ h => h) hr.objs hok hagg h1 hd (fun id hm => hf id (List.mem_append.2 (.inl hm)))
            exact ⟨cs, rest, rfl, hen, pkOuts_R hr h2 hrest hok (fun id hm => hf id (List.mem_append.2 (.inr hm)))⟩
          · cases h
        · cases h
      · cases h
    · cases h
  | .own E ty :: r, ds, vs, y, fro, own, h, ha, hok, hf => by
    simp only [pkOuts] at h
    split at h
    · rename_i ds
      split at h
      · rename_i y2 f2 o2 h2
        cases h
        obtain ⟨v, rest, rfl, hd, hrest⟩ := ha.cons_l
        rw [show v = .slice none 0 0 from hd]
        exact ⟨_, rest, _, rfl, ⟨[], trivial, World.ownsRow_nil _ _ _ _⟩, rfl, pkOuts_R hr h2 hrest hok hf⟩
      · cases h
    · rename_i id ds
      split at h
      · rename_i E' t' xs hH
        split at h
        · rename_i ht; subst ht
          split at h
          · rename_i hE; subst hE
            split at h
            · rename_i y2 f2 o2 h2
              cases h
              obtain ⟨v, rest, rfl, hd, hrest⟩ := ha.cons_l
              have hv : v = g id := hd.2 t' xs.length (by rw [hH]; rfl)
              have ho := hr.objs id
              rw [hH] at ho
              refine ⟨_, rest, o2.filterMap (owned g s.H), rfl, ?_, ?_, pkOuts_R hr h2 hrest hok hf⟩
              · rw [hv]; exact RowO.mono (fun k hk => ⟨hok k hk, rfl⟩) (fun _ _ => rfl) ho
              · have : owned g s.H id = blkOf v := by simp [owned, hH, hv]
                rw [List.filterMap_cons, this]
                cases blkOf v <;> rfl
            · cases h
          · cases h
        · cases h
      · cases h
    · cases h

theorem retV_eq (vs : List Value) : (if h : vs.toArray.size = 1 then vs.toArray[0] else .tuple vs.toArray) = retV vs := by
  match vs with
  | [] => rfl
  | [v] => rfl
  | v :: u :: r => simp [retV]

theorem fn_sound (hT : ∀ f sp, T f = some sp → Sound P f sp) {f : FuncId} {fn : Func} (hf : P.funcs[f]? = some fn) (ent : ∀ args w, (callFunc f args).run P w = .ok (.enter f args) w) {ins outs : List K} (hl : outs.length ≤ 8) :
    Sound P f ⟨ins, outs, fnSem P T ann fn ins outs⟩ := by
  refine ⟨hl, ent, fun x y hxy w vs ok hok hargs => ?_⟩
  have h : fnSem P T ann fn ins outs x = some y := hxy
  unfold fnSem at h
  split at h
  · cases h
  · rename_i c hb
    refine calls_of_wp hf hb (ev_sound (B := ⟨w, fun k => ok k ∨ w.heap.size ≤ k, fun _ => .inr⟩) hT c 1 _ y _ (start_rel hok hargs) h fun ex s' g' a' w' hx hext hrel => ?_)
    have key : (match resVals P s' fn.results.toList with
      | none => none
      | some ds => match pkOuts s'.H outs ds with
        | some (y, fro, own) => bif nodupB own && own.all (fun i => !fro.contains i) then some y else none
        | none => none) = some y → ∃ v, (results fn a'.tmps).run P w' = .ok v w' ∧ ∃ rs bs ok', Ending.returned v = .returned (retV rs) ∧ OutsR w' ok' outs y rs bs ∧ bs.Nodup ∧ (∀ b ∈ bs, w.heap.size ≤ b) ∧
          (∀ k, ok' k → (ok k ∨ w.heap.size ≤ k) ∧ k < w'.heap.size ∧ k ∉ bs) ∧ Below w.heap.size w w' := by
      intro hk
      split at hk
      · cases hk
      · rename_i ds hds
        split at hk
        · rename_i y' fro own hpk
          cases hc : nodupB own && own.all (fun i => !fro.contains i) with
          | false => rw [hc] at hk; cases hk
          | true =>
            rw [hc] at hk
            cases hk
            simp only [Bool.and_eq_true] at hc
            have hnd := nodupB_spec hc.1
            obtain ⟨rs, hrun, hrs⟩ := res_run (P := P) hrel hds
            let bs := own.filterMap (owned g' s'.H)
            have hbs : ∀ b ∈ bs, ∃ i ∈ own, owned g' s'.H i = some b := fun b hb' => by
              obtain ⟨i, hi, e⟩ := List.mem_filterMap.1 hb'
              exact ⟨i, hi, e⟩
            let ok' : Nat → Prop := fun k => (ok k ∨ w.heap.size ≤ k) ∧ k < w'.heap.size ∧ k ∉ bs
            have houts := pkOuts_R (ok' := ok') hrel hpk hrs (fun k hk => ⟨hk.2.2, hk.1, fun hm => by obtain ⟨i, _, e⟩ := hbs k hm; exact hk.2.1 i e⟩) (fun id hid k hk => by
              refine ⟨.inr (hrel.base id k hk), OB.lt (hrel.objs id) rfl hk, fun hm => ?_⟩
              obtain ⟨i, hi, e⟩ := hbs k hm
              have := hrel.disj i id k e hk
              subst this
              have hall := List.all_eq_true.1 hc.2 i hi
              simp [hid] at hall)
            refine ⟨retV rs, ?_, rs, bs, ok', rfl, houts, ?_, fun b hb' => ?_, fun k hk => hk, hrel.frm⟩
            · rw [results_eq, Array.mapM_eq_mapM_toList]
              simp only [Sem.run_bind, Sem.run_map, hrun, Result.andThen_ok, Sem.run_pure, retV_eq]
            · have hdisj := hrel.disj
              have : ∀ {l : List Nat}, l.Nodup → (l.filterMap (owned g' s'.H)).Nodup := by
                intro l
                induction l with
                | nil => intro _; exact List.nodup_nil
                | cons i l ih =>
                  intro hn
                  obtain ⟨n1, n2⟩ := List.nodup_cons.1 hn
                  rw [List.filterMap_cons]
                  cases e : owned g' s'.H i with
                  | none => exact ih n2
                  | some b =>
                    refine List.nodup_cons.2 ⟨fun hm => ?_, ih n2⟩
                    obtain ⟨j, hj, e'⟩ := List.mem_filterMap.1 hm
                    exact n1 ((hdisj i j b e e') ▸ hj)
              exact this hnd
            · obtain ⟨i, _, e⟩ := hbs b hb'
              exact hrel.base i b e
        · cases hk
    cases ex with
    | exit id => cases hx
    | normal =>
      obtain ⟨v, h1, h2⟩ := key hx
      exact ⟨hrel.dfr, v, h1, h2⟩
    | ret =>
      obtain ⟨v, h1, h2⟩ := key hx
      exact ⟨hrel.dfr, v, h1, h2⟩

end Go.Proofs.Fr

/- Tables of contracts and of notes; what a function's name and body must be. -/
namespace Go.Proofs.Fr
open Go Go.RowKit

def tabT : List (Nat × Sp) → Nat → Option Sp
  | [], _ => none
  | x :: r, n => bif Nat.beq n x.1 then some x.2 else tabT r n

def annT : List (Nat × PK) → Nat → Option PK
  | [], _ => none
  | x :: r, n => bif Nat.beq n x.1 then some x.2 else annT r n

variable {P : Program}
theorem tab_nil : ∀ f sp, tabT [] f = some sp → Sound P f sp := fun _ _ h => by cases h
theorem tab_cons {n : Nat} {s : Sp} {l : List (Nat × Sp)} (h : Sound P n s) (t : ∀ f sp, tabT l f = some sp → Sound P f sp) : ∀ f sp, tabT ((n, s) :: l) f = some sp → Sound P f sp := by
  intro f sp hf
  simp only [tabT] at hf
  cases e : Nat.beq f n with
  | true =>
    rw [e] at hf
    cases hf
    have : f = n := Nat.eq_of_beq_eq_true e
    rw [this]; exact h
  | false => rw [e] at hf; exact t f sp hf

theorem ent_of {f : FuncId} {fn : Func} (hf : P.funcs[f]? = some fn) (hn : (fn.name == "runtime.NumGoroutine") = false) (hb : fn.body.isNone = false) : ∀ args w, (callFunc f args).run P w = .ok (.enter f args) w := by
  intro args w
  simp only [callFunc, Sem.run_bind, run_program, Result.andThen_ok, hf, hn, hb, Bool.false_eq_true, if_false, Sem.run_pure]

end Go.Proofs.Fr

/- What a law's arguments read as: plain values of their types. -/
namespace Go.Proofs.Fr
open Go Go.RowKit

/-- A plain value that an argument may be. -/
def Wf (P : Program) : (t : Ty) → t.den → Prop
  | .int k, n => (Lit.int k n).wf = true
  | .bool, _ => True
  | .str, s => s.size ≤ 140737488351232
  | .sl E t, xs => List.length (α := t.den) xs * P.bytesOf E ≤ 140737488351232 ∧ ∀ x ∈ (xs : List t.den), Wf P t x
  | .nil, _ => True
  | .cons a b, x => Wf P a x.1 ∧ Wf P b x.2

def fieldsOk (P : Program) (lay : TypeId → Ty → Bool) : List Field → Nat → Ty → Bool
  | [], _, t => match t with
    | .nil => true
    | _ => false
  | f :: fs, off, t => match t with
    | .cons a b => Nat.beq f.offset off && lay f.type a && Nat.beq (P.cellsOf f.type) a.sz && fieldsOk P lay fs (off + a.sz) b
    | _ => false

/-- The type's table says just this. -/
def layOk (P : Program) : Nat → TypeId → Ty → Bool
  | 0, _, _ => false
  | n + 1, T, t => match P.underlying T with
    | some .bool => match t with
      | .bool => true
      | _ => false
    | some (.int k) => match t with
      | .int k' => if k = k' then true else false
      | _ => false
    | some .string => match t with
      | .str => true
      | _ => false
    | some (.slice e) => match t with
      | .sl E t' => Nat.beq e E && layOk P n e t' && Nat.beq (P.cellsOf e) t'.sz && Nat.blt 0 t'.sz
      | _ => false
    | some (.struct fs) => fieldsOk P (layOk P n) fs.toList 0 t && Nat.beq (P.cellsOf T) t.sz
    | _ => false

def OpensT (P : Program) (T : TypeId) (t : Ty) : Prop :=
  ∀ {H : Type} (enc : TypeId × Value → H) (w : World) (base : Nat) (spare : Nat → Bool) (held : Bool) (fuel : Nat) (cs : List Value) (x : DataW H × List MemPlace),
    DataW.trod enc P w base spare held fuel T cs = some x → (x.1.weights P T).all (· ≤ reachBytes) = true → ∃ a : t.den, En w (fun k => k < w.heap.size) t a cs ∧ Wf P t a

variable {P : Program}

theorem weightsAll_mem' {H : Type} {e : TypeId} : ∀ {ds : List (DataW H)} {d : DataW H}, d ∈ ds → ∀ n ∈ d.weights P e, n ∈ DataW.weightsAll P e ds
  | d0 :: ds, d, hd, n, hn => by
    simp only [DataW.weightsAll, List.mem_append]
    rcases List.mem_cons.1 hd with rfl | hd
    · exact .inl hn
    · exact .inr (weightsAll_mem' hd n hn)

theorem cell_addr {w : World} {a : Addr} {v : Value} (h : w.cell? a = some v) : a = ⟨a.block, a.off, none⟩ ∧ a.block < w.heap.size := by
  obtain ⟨k, o, sp⟩ := a
  refine ⟨?_, World.block_lt_of_cell? w _ h⟩
  unfold World.cell? at h
  split at h
  · cases sp with
    | none => rfl
    | some q => simp at h
  · cases h

theorem opens_slice {T e : TypeId} {t : Ty} (ht : P.underlying T = some (.slice e)) (hc : P.cellsOf e = t.sz) (h0 : 0 < t.sz) (he : OpensT P e t) : OpensT P T (.sl e t) := by
  intro H enc w base spare held fuel cs x h hsz
  rcases Deep.open_slice ht h with ⟨rfl, rfl⟩ | ⟨a, len, cap, m, n, D, Pl, rfl, hb, hl, hm, hmm, rfl, hi⟩
  · exact ⟨[], ⟨none, 0, rfl, Nat.le_refl _, fun i hi => by simp at hi⟩, by simp [Wf]⟩
  · have hlm : len ≤ m := by rw [hmm]; split <;> omega
    have hall := List.all_eq_true.1 hsz
    simp only [DataW.weights, ht, List.mem_cons, List.mem_append, decide_eq_true_eq] at hall
    have hpick : ∀ i, i < len → ∃ a1 : t.den, (∃ cs', w.cells? base (a.add (i * P.cellsOf e)) (P.cellsOf e) = some cs' ∧ En w (fun k => k < w.heap.size) t a1 cs') ∧ Wf P t a1 := by
      intro i hil
      obtain ⟨cs', hcs, htr⟩ := hi i (by omega)
      obtain ⟨a1, hk, hw⟩ := he enc w base spare held n cs' _ htr (List.all_eq_true.2 fun z hz => by
        have := hall z (.inr (.inl (weightsAll_mem' (List.mem_map.2 ⟨i, by simpa using hil, rfl⟩) z hz)))
        simpa using this)
      exact ⟨a1, ⟨cs', hcs, hk⟩, hw⟩
    have hlist : ∃ l : List t.den, l.length = len ∧ ∀ (i : Nat) (p : t.den), l[i]? = some p → (∃ cs', w.cells? base (a.add (i * P.cellsOf e)) (P.cellsOf e) = some cs' ∧ En w (fun k => k < w.heap.size) t p cs') ∧ Wf P t p := by
      have key : ∀ q, q ≤ len → ∃ l : List t.den, l.length = q ∧ ∀ (i : Nat) (p : t.den), l[i]? = some p → (∃ cs', w.cells? base (a.add (i * P.cellsOf e)) (P.cellsOf e) = some cs' ∧ En w (fun k => k < w.heap.size) t p cs') ∧ Wf P t p := by
        intro q
        induction q with
        | zero => intro _; exact ⟨[], rfl, fun i p hp => by simp at hp⟩
        | succ q ih =>
          intro hq
          obtain ⟨l, hlen, hl⟩ := ih (by omega)
          obtain ⟨a1, h1, h2⟩ := hpick q (by omega)
          refine ⟨l ++ [a1], by simp [hlen], fun i p hp => ?_⟩
          by_cases hiq : i < q
          · rw [List.getElem?_append_left (by omega)] at hp
            exact hl i p hp
          · have hi2 : i < (l ++ [a1]).length := (List.getElem?_eq_some_iff.1 hp).1
            have : i = q := by simp [hlen] at hi2; omega
            subst this
            rw [List.getElem?_append_right (by omega), hlen, Nat.sub_self] at hp
            simp only [List.getElem?_cons_zero, Option.some.injEq] at hp
            subst hp
            exact ⟨h1, h2⟩
      exact key len (Nat.le_refl _)
    obtain ⟨l, hlen, hl2⟩ := hlist
    subst hlen
    refine ⟨l, ⟨some a, cap, rfl, hl, fun i hi => ?_⟩, ?_, fun x hx => ?_⟩
    · obtain ⟨⟨cs', hcs, hk⟩, _⟩ := hl2 i _ (List.getElem?_eq_getElem hi)
      obtain ⟨_, hcl, hat⟩ := World.cells?_some hcs
      have hlen' : cs'.length = t.sz := hk.len
      -- the first element's first cell tells that the address is plain
      have hplain : a = ⟨a.block, a.off, none⟩ ∧ a.block < w.heap.size := by
        obtain ⟨⟨cs0, hcs0, hk0⟩, _⟩ := hl2 0 _ (List.getElem?_eq_getElem (show 0 < l.length by have : i < l.length := hi; omega))
        obtain ⟨_, hcl0, hat0⟩ := World.cells?_some hcs0
        have hl0 : 0 < cs0.length := by rw [hk0.len]; exact h0
        have := hat0 0 (by rw [hc]; exact h0)
        rw [List.getElem?_eq_getElem hl0] at this
        have ha0 : (a.add (0 * P.cellsOf e)).add 0 = a := by rw [Nat.zero_mul]; rfl
        rw [ha0] at this
        exact cell_addr this
      refine ⟨a.block, a.off, cs', by rw [← hplain.1], hplain.2, hk, fun j hj => ?_⟩
      have h3 := hat j (by rw [hc, ← hlen']; exact hj)
      rw [List.getElem?_eq_getElem hj] at h3
      rw [← h3, hc, Deep.add_add]
      conv => rhs; rw [hplain.1]
      rw [add_at, Nat.add_assoc]
    · have h4 := hall _ (.inl rfl)
      simp only [List.length_map, List.length_range] at h4
      have h5 : l.length * P.bytesOf e ≤ (l.length + (m - l.length)) * P.bytesOf e := Nat.mul_le_mul_right _ (by omega)
      have h6 : reachBytes = 140737488351232 := by decide
      rw [h6] at h4
      omega
    · obtain ⟨i, hi1, rfl⟩ := List.getElem_of_mem hx
      exact (hl2 i _ (List.getElem?_eq_getElem hi1)).2

theorem opens_fields {lay : TypeId → Ty → Bool} (hlay : ∀ T t, lay T t = true → OpensT P T t) : ∀ (fs : List Field) (off : Nat) (t : Ty), fieldsOk P lay fs off t = true →
    ∀ {H : Type} (enc : TypeId × Value → H) (w : World) (base : Nat) (spare : Nat → Bool) (held : Bool) (n : Nat) (cs : List Value) (xs : List (DataW H × List MemPlace)),
    cs.length = t.sz → xs.length = fs.length → (∀ (i : Nat) (f : Field), fs[i]? = some f → DataW.trod enc P w base spare held n f.type ((cs.drop (f.offset - off)).take (P.cellsOf f.type)) = xs[i]?) →
    (DataW.weightsEach P (fs.map (·.type)) (xs.map (·.1))).all (· ≤ reachBytes) = true → ∃ a : t.den, En w (fun k => k < w.heap.size) t a cs ∧ Wf P t a := by
  intro fs
  induction fs with
  | nil =>
    intro off t h H enc w base spare held n cs xs hcs hxs ht hsz
    simp only [fieldsOk] at h
    split at h
    · exact ⟨(), List.eq_nil_of_length_eq_zero hcs, trivial⟩
    · cases h
  | cons f fs ih =>
    intro off t h H enc w base spare held n cs xs hcs hxs ht hsz
    simp only [fieldsOk] at h
    split at h
    · rename_i a b
      simp only [Bool.and_eq_true] at h
      obtain ⟨⟨⟨h1, h2⟩, h3⟩, h4⟩ := h
      have ho : f.offset = off := Nat.eq_of_beq_eq_true h1
      have hc : P.cellsOf f.type = a.sz := Nat.eq_of_beq_eq_true h3
      match xs, hxs with
      | x :: xs, hxs =>
        have hcs' : cs.length = a.sz + b.sz := hcs
        have h5 := ht 0 f rfl
        rw [ho, Nat.sub_self, List.drop_zero, hc] at h5
        simp only [List.getElem?_cons_zero] at h5
        simp only [List.map_cons, DataW.weightsEach, List.all_append, Bool.and_eq_true] at hsz
        obtain ⟨va, ha, hwa⟩ := hlay f.type a h2 enc w base spare held n _ x h5 hsz.1
        -- the fields behind it begin where it ends
        have hoffs : ∀ (fs : List Field) (off' : Nat) (b : Ty), fieldsOk P lay fs off' b = true → ∀ g ∈ fs, off' ≤ g.offset := by
          intro fs
          induction fs with
          | nil => intro off' b _ g hg; cases hg
          | cons f2 fs ih2 =>
            intro off' b hb g hg
            simp only [fieldsOk] at hb
            split at hb
            · rename_i a2 b2
              simp only [Bool.and_eq_true] at hb
              obtain ⟨⟨⟨q1, _⟩, _⟩, q4⟩ := hb
              rcases List.mem_cons.1 hg with rfl | hg
              · exact Nat.le_of_eq (Nat.eq_of_beq_eq_true q1).symm
              · have := ih2 _ b2 q4 g hg; omega
            · cases hb
        obtain ⟨vb, hb, hwb⟩ := ih (off + a.sz) b h4 enc w base spare held n (cs.drop a.sz) xs (by simp; omega) (by simpa using hxs) (fun i g hg => by
          have h6 := ht (i + 1) g (by simpa using hg)
          have h7 := hoffs fs _ b h4 g (List.mem_of_getElem? hg)
          rw [List.drop_drop, show a.sz + (g.offset - (off + a.sz)) = g.offset - off by omega]
          simpa using h6) hsz.2
        exact ⟨(va, vb), ⟨cs.take a.sz, cs.drop a.sz, (List.take_append_drop _ _).symm, ha, hb⟩, hwa, hwb⟩
    · cases h

theorem opens_ty : ∀ (n : Nat) (T : TypeId) (t : Ty), layOk P n T t = true → OpensT P T t
  | 0, _, _, h => by simp only [layOk] at h; cases h
  | n + 1, T, t, h => by
    simp only [layOk] at h
    split at h
    · rename_i hu
      split at h
      · intro enc w base spare held fuel cs x hx _
        obtain ⟨b, rfl, _⟩ := DataW.trod_bool hu hx
        exact ⟨b, rfl, trivial⟩
      · cases h
    · rename_i k hu
      split at h
      · split at h
        · rename_i hk; subst hk
          intro enc w base spare held fuel cs x hx _
          obtain ⟨m, rfl, _, hw⟩ := DataW.trod_int hu hx
          exact ⟨m, rfl, hw⟩
        · cases h
      · cases h
    · rename_i hu
      split at h
      · intro enc w base spare held fuel cs x hx hsz
        obtain ⟨s, rfl, rfl, _⟩ := DataW.trod_string hu hx
        refine ⟨s, rfl, ?_⟩
        simp only [DataW.weights, List.all_cons, List.all_nil, Bool.and_true, decide_eq_true_eq] at hsz
        show s.size ≤ _
        simpa [reachBytes] using hsz
      · cases h
    · rename_i e hu
      split at h
      · rename_i E t'
        simp only [Bool.and_eq_true] at h
        obtain ⟨⟨⟨h1, h2⟩, h3⟩, h4⟩ := h
        have he : e = E := Nat.eq_of_beq_eq_true h1
        subst he
        exact opens_slice hu (Nat.eq_of_beq_eq_true h3) (by simpa [Nat.blt_eq] using h4) (opens_ty n e t' h2)
      · cases h
    · rename_i fs hu
      simp only [Bool.and_eq_true] at h
      intro enc w base spare held fuel cs x hx hsz
      obtain ⟨xs, m, _, rfl, hlen, hxs, hf⟩ := DataW.trod_struct hu hx
      exact opens_fields (fun T t h => opens_ty n T t h) fs.toList 0 t h.1 enc w base spare held m cs xs (by rw [hlen]; exact Nat.eq_of_beq_eq_true h.2) (by simpa using hxs) (fun i f hi => by
        rw [Nat.sub_zero]
        exact hf i f (by simpa using hi)) (by simpa [DataW.weights, hu] using hsz)
    · cases h

/-- An argument. -/
theorem opens_at {T : TypeId} {t : Ty} (ho : layOk P 20 T t = true) {H : Type} {enc : TypeId × Value → H} {w : World} {base : Nat} {spare : Nat → Bool} {held : Bool} {v : Value} {x : DataW H} {ps : List MemPlace}
    (h : DataW.Trod enc P w base spare held T v x ps) (hsz : (x.weights P T).all (· ≤ reachBytes) = true) : ∃ a : t.den, En w (fun k => k < w.heap.size) t a v.cells.toList ∧ Wf P t a := by
  obtain ⟨fuel, hf⟩ := h
  exact opens_ty 20 T t ho enc w base spare held fuel _ _ hf hsz

theorem weights_arg' {H : Type} {ts : List TypeId} {ds : List (DataW H)} {j : Nat} {t : TypeId} {d : DataW H} (h : (DataW.weightsEach P ts ds).all (· ≤ reachBytes) = true) (ht : ts[j]? = some t) (hd : ds[j]? = some d) : (d.weights P t).all (· ≤ reachBytes) = true :=
  List.all_eq_true.2 fun n hn => List.all_eq_true.1 h n (DataW.weights_mem_each ht hd n hn)

end Go.Proofs.Fr

/- A law: its arguments opened, its run, its arguments shut again. -/
namespace Go.Proofs.Fr
open Go Go.RowKit Go.ChangeShapes Go.WideShapes

def argsOk (P : Program) : List TypeId → List Ty → Bool
  | [], ts => match ts with
    | [] => true
    | _ => false
  | T :: Ts, ts => match ts with
    | t :: ts => layOk P 20 T t && P.readableRec T && Nat.blt T P.types.size && argsOk P Ts ts
    | _ => false

def WfA (P : Program) : (ts : List Ty) → dens (ts.map .v) → Prop
  | [], _ => True
  | t :: ts, x => Wf P t x.1 ∧ WfA P ts x.2

variable {P : Program}
theorem mkV_wide {T : TypeId} {t : Ty} (h : layOk P 20 T t = true) {W : World} {r : Reach} {base : Nat} {v : Value} (hv : Value.okWide P W r base T v) : v = mkV t.isAgg v.cells.toList := by
  unfold layOk at h
  split at h
  · rename_i hu
    split at h
    · obtain ⟨b, rfl⟩ := okWide_bool hu hv; rfl
    · cases h
  · rename_i k hu
    split at h
    · split at h
      · obtain ⟨n, rfl⟩ := okWide_int hu hv; rfl
      · cases h
    · cases h
  · rename_i hu
    split at h
    · obtain ⟨s, rfl⟩ := okWide_string hu hv; rfl
    · cases h
  · rename_i e hu
    split at h
    · obtain ⟨a, l, c, rfl⟩ := okWide_slice hu hv; rfl
    · cases h
  · rename_i fs hu
    obtain ⟨cs, rfl, _⟩ := okWide_struct hu hv
    simp only [Bool.and_eq_true] at h
    have : t.isAgg = true := by
      have h1 := h.1
      cases hfs : fs.toList with
      | nil => rw [hfs] at h1; simp only [fieldsOk] at h1; split at h1 <;> first | rfl | cases h1
      | cons f fs' => rw [hfs] at h1; simp only [fieldsOk] at h1; split at h1 <;> first | rfl | cases h1
    rw [this]
    simp [mkV, Value.cells]
  · cases h

theorem args_law (hl : laidOutB P = true) {H : Type} {enc : TypeId × Value → H} {W : World} : ∀ {Ts : List TypeId} {ts : List Ty} {vs : List Value} {ds : List (DataW H)} {p : List MemPlace}, argsOk P Ts ts = true →
    DataW.TrodAll enc P W 0 (fun _ => true) true Ts vs ds p → (∀ (j : Nat) t v, Ts[j]? = some t → vs[j]? = some v → Value.okWide P W .any 0 t v) →
    (∀ (j : Nat) t d, Ts[j]? = some t → ds[j]? = some d → (d.weights P t).all (· ≤ reachBytes) = true) →
    ∃ x : dens (ts.map .v), WfA P ts x ∧ ArgsR W (fun k => k < W.heap.size) (ts.map .v) x vs ∧
      ∀ W', Below W.heap.size W W' → DataW.TrodAll enc P W' 0 (fun b => decide (b < W.heap.size)) true Ts vs ds p
  | [], ts, vs, ds, p, ho, hA, _, _ => by
    obtain ⟨rfl, rfl, rfl⟩ := trodAll_nil hA
    simp only [argsOk] at ho
    split at ho
    · exact ⟨(), trivial, rfl, fun _ _ => trodAll_mk0⟩
    · cases ho
  | T :: Ts, ts, vs, ds, p, ho, hA, hv, hw => by
    obtain ⟨v, vs, d, ds, p, q, rfl, rfl, rfl, h0, r0⟩ := trodAll_cons hA
    simp only [argsOk] at ho
    split at ho
    · rename_i t ts
      simp only [Bool.and_eq_true] at ho
      obtain ⟨⟨⟨o1, o2⟩, o3⟩, o4⟩ := ho
      obtain ⟨x, hwx, hax, hbx⟩ := args_law hl o4 r0 (fun j t v h1 h2 => hv (j + 1) t v (by simpa using h1) (by simpa using h2)) (fun j t d h1 h2 => hw (j + 1) t d (by simpa using h1) (by simpa using h2))
      obtain ⟨a, ha, hwa⟩ := opens_at o1 h0 (hw 0 T d rfl rfl)
      refine ⟨(a, x), ⟨hwa, hwx⟩, ⟨v.cells.toList, vs, ?_, ha, hax⟩, fun W' bel => trodAll_cons_mk ?_ (hbx W' bel)⟩
      · rw [← mkV_wide o1 (hv 0 T v rfl rfl)]
      · have lt0 : ∀ x ∈ p, x.block < W.heap.size := by obtain ⟨m, hm⟩ := h0; exact DataW.trod_lt m _ _ _ hm
        exact Below.trod hl o2 (by simpa [Nat.blt_eq] using o3) h0 bel lt0
    · cases ho

/-- A law's run. -/
theorem law_run {f : FuncId} {ts : List Ty} {sem : dens (ts.map .v) → Option (dens [K.v .bool])} (hs : Sound P f ⟨ts.map .v, [.v .bool], sem⟩) (hp : ∀ x, WfA P ts x → sem x = some (true, ()))
    {W : World} {args : Array Value} {x : dens (ts.map .v)} (hx : WfA P ts x) (ha : ArgsR W (fun k => k < W.heap.size) (ts.map .v) x args.toList) :
    Calls P f args W fun e w' => e = .returned (.bool true) ∧ Below W.heap.size W w' := by
  have h := hs.run x _ (hp x hx) W args.toList _ (fun k h => h) ha
  rw [Array.toArray_toList] at h
  refine Calls.mono h ?_
  rintro e w' ⟨rs, bs, ok', rfl, ho, _, _, _, hb⟩
  obtain ⟨cs, rest, rfl, he, hn⟩ := ho
  have hn1 : rest = [] := (show rest = [] ∧ bs = [] from hn).1
  subst hn1
  have e1 : cs = [.bool true] := by simpa [En] using he
  subst e1
  exact ⟨rfl, hb⟩

end Go.Proofs.Fr
