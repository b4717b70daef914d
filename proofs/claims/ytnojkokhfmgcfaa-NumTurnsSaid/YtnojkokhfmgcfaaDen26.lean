/- Calls go as they are told, if all that is told of functions holds. No conditions: laws. -/
import Derived.Test.YtnojkokhfmgcfaaDen25
namespace Go.Proofs.Ytnojkokhfmgcfaa.Den
open Go

/-- A call of a function by its number: of its body; or of what stands for a body. -/
def CallOk (P : Program) (g : FuncId) (args : Array Value) (w : World) (R : Value → World → Prop) : Prop :=
  (∃ fn, P.funcs[g]? = some fn ∧ fn.body.isNone = false ∧ (fn.name == "runtime.NumGoroutine") = false ∧ Calls P g args w fun e w' => ∃ v, e = .returned v ∧ R v w') ∨
  ∃ v w', (callFunc g args).run P w = .ok (.value v) w' ∧ R v w'

theorem CallOk.mono {P : Program} {g : FuncId} {args : Array Value} {w : World} {R R' : Value → World → Prop} (h : CallOk P g args w R) (hm : ∀ v w', R v w' → R' v w') : CallOk P g args w R' := by
  rcases h with ⟨fn, h1, h2, h3, h4⟩ | ⟨v, w', h1, h2⟩
  · exact .inl ⟨fn, h1, h2, h3, h4.mono fun e w' ⟨v, k1, k2⟩ => ⟨v, k1, hm v w' k2⟩⟩
  · exact .inr ⟨v, w', h1, hm v w' h2⟩

theorem CallOk.op {P : Program} {g : FuncId} {w : World} {R : Value → World → Prop} {o : Oper} {a : Act} {f : Operand} {args : Array Operand} {ns : Array TypeId} {caps : Array Value} {N : Act → World → Prop} {Q : Exit → Act → World → Prop}
    (ho : o.op = .call { callee := .value f, args := args, argTypes := ns }) (hf : a.eval f = .func (.func g) #[] caps) (h : CallOk P g (args.map a.eval ++ caps) w R) (hm : ∀ v w', R v w' → N (a.put o.dst v) w') : o.wp P a w N Q := by
  have hx : (execOp a.eval o).run P w = (callFunc g (args.map a.eval ++ caps)).run P w := by
    simp [execOp, ho, resolve, Deferred.ofValue, hf, invoke]
  unfold Oper.wp
  rw [hx]
  rcases h with ⟨fn, h1, h2, h3, h4⟩ | ⟨v, w', h1, h2⟩
  · have : (callFunc g (args.map a.eval ++ caps)).run P w = .ok (.enter g (args.map a.eval ++ caps)) w := by
      simp only [callFunc, Sem.run_bind, run_program, Result.andThen_ok, h1, h2, h3, Bool.false_eq_true, if_false, Sem.run_pure]
    rw [this, Oper.upon_enter]
    refine h4.mono ?_
    rintro e w' ⟨v, rfl, hR⟩
    exact hm v w' hR
  · rw [h1]
    exact hm v w' h2

/-- What is told of a function holds. -/
structure SpecOk (P : Program) (g : FuncId) (sp : Spec) : Prop where
  nat : ∀ as os, ∃ out : Option (TV × List Obj), ∀ (ρ : Type) (K : TV → List Obj → Option ρ), sp.run as os K = out.bind fun p => K p.1 p.2
  ok : ∀ (as : List TV) (os : List Obj) (v : TV) (S : List Obj), sp.run as os (fun v S => some (v, S)) = some (v, S) →
    ∀ (w : World) (M : Mem) (X : Fr) (ι : Nat → Nat) (θ : Nat → Option Nat) (V : List Value), Inv w M X (beg sp os) w M ι θ → rvs M ι as V → tcs w M θ (beg sp os).O (beg sp os).c as V → withins os.length as →
      CallOk P g V.toArray w fun x w' => ∃ M' ι' θ', Inv w M X (fin S sp.toks os.length) w' M' ι' θ' ∧ rv M' ι' v x ∧ tc w' M' θ' (fin S sp.toks os.length).O sp.toks v x ∧ within S.length v

def TabOk (P : Program) (E : Table) : Prop := ∀ g sp, E.find g = some sp → SpecOk P g sp
theorem TabOk.nat {P : Program} {E : Table} (h : TabOk P E) : TabNat E := fun g sp hg => (h g sp hg).nat

section
variable {w0 : World} {M0 : Mem} {X : Fr} {s : St} {w : World} {M : Mem} {ι : Nat → Nat} {θ : Nat → Option Nat} {a : Act}

theorem evs_ok (T : TInv s w M ι θ a) (ty : Nat → Option Ty) : ∀ (l : List Operand) (k : List TypeId), rvs M ι (s.evs ty l k) (l.map a.eval) ∧ tcs w M θ s.O s.c (s.evs ty l k) (l.map a.eval) ∧ withins s.S.length (s.evs ty l k)
  | [], _ => ⟨rfl, trivial, trivial⟩
  | x :: l, [] => by
    obtain ⟨h1, h2, h3⟩ := ev_ok T none x
    obtain ⟨k1, k2, k3⟩ := evs_ok T ty l []
    exact ⟨⟨_, _, rfl, h1, k1⟩, ⟨h2, k2⟩, h3, k3⟩
  | x :: l, n :: ns => by
    obtain ⟨h1, h2, h3⟩ := ev_ok T (ty n) x
    obtain ⟨k1, k2, k3⟩ := evs_ok T ty l ns
    exact ⟨⟨_, _, rfl, h1, k1⟩, ⟨h2, k2⟩, h3, k3⟩

theorem rvs_append : ∀ {l l2 : List TV} {v v2 : List Value}, rvs M ι l v → rvs M ι l2 v2 → rvs M ι (l ++ l2) (v ++ v2)
  | [], _, _, _, h, h2 => by rw [show _ = [] from h]; exact h2
  | x :: l, _, _, _, h, h2 => by
    obtain ⟨v, r, rfl, k1, k2⟩ := h
    exact ⟨v, _, rfl, k1, rvs_append k2 h2⟩
theorem tcs_append {O : Nat → Bool} {c : Nat} : ∀ {l l2 : List TV} {v v2 : List Value}, rvs M ι l v → tcs w M θ O c l v → tcs w M θ O c l2 v2 → tcs w M θ O c (l ++ l2) (v ++ v2)
  | [], _, _, _, h, _, h2 => by rw [show _ = [] from h]; exact h2
  | x :: l, _, _, _, h, h1, h2 => by
    obtain ⟨v, r, rfl, k1, k2⟩ := h
    exact ⟨h1.1, tcs_append k2 h1.2 h2⟩

theorem callSim {P : Program} {Γ : Env} {E : Table} (hE : TabOk P E) : CallSim P Γ E := by
  intro w0 M0 X s w M ι θ a ρ r K N Q o dr f args ns ho h I T G
  obtain ⟨hf1, _, _⟩ := ev_ok T none f
  unfold callK at h
  split at h
  case h_2 => cases h
  rename_i g caps hfn
  rw [hfn] at hf1
  obtain ⟨cv, hfv, hcv⟩ := hf1
  split at h
  case h_2 => cases h
  rename_i sp hsp
  have hok := hE g sp hsp
  obtain ⟨a1, a2, _⟩ := evs_ok T Γ.ty args.toList ns.toList
  obtain ⟨b1, _, _, b4⟩ := tidys_ok (w := w) (θ := θ) (O := s.O) (c := s.c) (m := 0) (θ1 := θ) (O1 := s.O) (c1 := s.c) (L := fun _ => false) caps cv hcv
  have hL := rvs_append a1 b1
  have hT := tcs_append a1 a2 (b4 fun _ => rfl)
  have hV : (args.toList.map a.eval ++ cv).toArray = args.map a.eval ++ cv.toArray := by apply Array.ext'; simp
  generalize hLe : s.evs Γ.ty args.toList ns.toList ++ tidy.go (fun _ => false) caps = L at h hL hT
  generalize hje : (bif dr then [] else reach s.S 64 [] (tvPtrs.go L)) = js at h
  unfold callS at h
  split at h
  case h_2 => cases h
  rename_i as1 os1 h1 h2
  split at h
  case h_2 => cases h
  rename_i as2 ta os2 tb h3 h4
  have h3 := sO_L h3
  have h4 := sO_LL h4
  cases hb : (apart js && apart (ta ++ tb) && apart sp.qs && Nat.beq os2.length js.length) with
  | false => rw [hb] at h; cases h
  | true =>
    rw [hb] at h
    simp only [Bool.and_eq_true, Nat.beq_eq] at hb
    obtain ⟨⟨⟨hj, hab⟩, hq⟩, hl⟩ := hb
    have hjs : ∀ (k i : Nat), js[k]? = some i → i < s.S.length := by
      intro k i hk
      obtain ⟨p1, p2⟩ := pickS_spec h2
      have hk' : k < os1.length := by rw [p1]; exact (List.getElem?_eq_some_iff.1 hk).1
      obtain ⟨i', cs, e1, e2, _⟩ := p2 k _ (List.getElem?_eq_getElem hk')
      rw [hk] at e1
      cases e1
      exact (List.getElem?_eq_some_iff.1 e2).1
    obtain ⟨θ0, I0, r0, t0, w00⟩ := call_begin I hL hT h1 h2 h3 h4 (apart_spec hj) (apart_spec hab) (apart_spec hq) hl
    obtain ⟨out, hout⟩ := hok.nat as2 os2
    cases dr with
    | false =>
      simp only [cond_true] at h
      rw [hout] at h
      cases out with
      | none => cases h
      | some p =>
        obtain ⟨v, S'⟩ := p
        have hrun : sp.run as2 os2 (fun v S => some (v, S)) = some (v, S') := by rw [hout]; rfl
        have hcall := hok.ok as2 os2 v S' hrun w M _ _ θ0 _ I0 r0 t0 w00
        rw [hV] at hcall
        refine hcall.op ho hfv ?_
        rintro x w' ⟨M', ι', θ', J, j1, j2, j3⟩
        rw [hl] at J j2
        obtain ⟨ι2, θ2, I2, T2, hbk⟩ := call_end I T (apart_spec hj) hjs J
        obtain ⟨q1, q2, q3⟩ := hbk v x j1 j2 j3
        exact G _ _ _ _ _ _ h (I2.put _ _) (T2.put _ q1 q2 q3)
    | true =>
      simp only [cond_true] at h
      split at h
      case h_2 => cases h
      have htok : ta ++ tb = [] := by assumption
      rw [hout] at h
      cases out with
      | none => cases h
      | some p =>
        obtain ⟨v, S'⟩ := p
        have hrun : sp.run as2 os2 (fun v S => some (v, S)) = some (v, S') := by rw [hout]; rfl
        have hcall := hok.ok as2 os2 v S' hrun w M _ _ θ0 _ I0 r0 t0 w00
        rw [hV] at hcall
        refine hcall.op ho hfv ?_
        rintro x w' ⟨M', ι', θ', J, j1, j2, j3⟩
        cases S' with
        | cons _ _ => cases h
        | nil =>
          have h : K (s.put o.dst (tidy (fun _ => false) v)) = some r := h
          have hk : ∀ b, b < w.heap.size → w'.heap[b]? = w.heap[b]? ∧ ∀ i, M' b i = M b i := by
            intro b hb
            refine J.keep b hb ?_
            rintro (⟨k, i, e, _⟩ | ⟨q, e, _⟩)
            · simp at e
            · rw [htok] at e; simp at e
          have I2 := I.step J.os J.tape J.output J.size J.memle J.mem (fun _ h => h) (Nat.le_refl _) I.tokc (fun b hb _ => hk b hb)
          have T2 := T.step I J.memle (fun _ h => h) (Nat.le_refl _) (fun b hb _ => hk b hb)
          obtain ⟨q1, _, q3, q4⟩ := tidy_ok (w := w') (θ := θ') (O := s.O) (c := s.c) (m := 0) (θ1 := θ) (O1 := s.O) (c1 := s.c) (L := fun _ => false) v x j1
          exact G _ _ _ _ _ _ h (I2.put _ _) (T2.put _ (rv_objs (ι := ι') (m := 0) (fun i hi => absurd hi (Nat.not_lt_zero _)) _ _ (q3 j3) q1) (q4 fun _ => rfl) (within_mono (Nat.zero_le _) _ (q3 j3)))

end
end Go.Proofs.Ytnojkokhfmgcfaa.Den
