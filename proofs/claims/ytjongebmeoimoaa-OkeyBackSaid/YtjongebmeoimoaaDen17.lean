/- Two steps that do not meet, in either order. No conditions: laws. -/
import Derived.Test.YtjongebmeoimoaaDen16
namespace Go.Proofs.Ytjongebmeoimoaa.Den
open Go

section
variable {Γ : Env} {E : Table} {dr : Bool} {o : Oper} {ops : Array Oper}

/-- An operation's reading by the objects and the tokens, too. -/
structure OpE (Γ : Env) (E : Table) (dr : Bool) (o : Oper) (s : St) (oe : Option Eff) : Prop where
  run : ∀ s2, AgX o s s2 → s2.S = s.S → s2.O = s.O → s2.c = s.c → ∀ (ρ : Type) (K : St → Option ρ), opK Γ E dr o s2 K = oe.bind fun e => K (e.on s2 o.dst)
  c0 : cls dr o.op = 0 → (∀ s2, AgX o s s2 → ∀ (ρ : Type) (K : St → Option ρ), opK Γ E dr o s2 K = (oe.map Eff.v).bind fun v => K (s2.put o.dst v)) ∧ ∀ e, oe = some e → e.S = s.S ∧ e.O = s.O ∧ e.c = s.c
  c1 : cls dr o.op = 1 → ∀ e, oe = some e → (e.S = s.S ∧ e.O = s.O ∧ e.c = s.c) ∧
    ∀ s2, AgX o s s2 → (∀ (p : Nat) cs, s.S[p]? = some cs → s2.S[p]? = some cs) → ∀ (ρ : Type) (K : St → Option ρ), opK Γ E dr o s2 K = K (s2.put o.dst e.v)
  c2 : cls dr o.op = 2 → ∀ e, oe = some e → (∀ (p : Nat) cs, s.S[p]? = some cs → e.S[p]? = some cs) ∧ e.O = s.O ∧ e.c = s.c

theorem on_same {e : Eff} {s2 : St} {d : Option Tmp} (h1 : e.S = s2.S) (h2 : e.O = s2.O) (h3 : e.c = s2.c) : e.on s2 d = s2.put d e.v := by
  unfold Eff.on; rw [h1, h2, h3]

theorem opE (hE : TabNat E) (hrw : Γ.rw = false) (s : St) : ∃ oe, OpE Γ E dr o s oe := by
  by_cases h0 : cls dr o.op = 0
  · obtain ⟨ov, hov⟩ := op0 (Γ := Γ) hE hrw h0 s
    refine ⟨ov.map fun v => ⟨v, s.S, s.O, s.c⟩, fun s2 h hS hO hc ρ K => ?_, fun _ => ⟨fun s2 h ρ K => ?_, fun e he => ?_⟩, fun h => by omega, fun h => by omega⟩
    · rw [hov s2 h]
      cases ov with
      | none => rfl
      | some v =>
        show K _ = K _
        rw [on_same (s2 := s2) hS.symm hO.symm hc.symm]
    · rw [hov s2 h]
      cases ov <;> rfl
    · cases ov <;> cases he
      exact ⟨rfl, rfl, rfl⟩
  · cases ho : o.op
    case load n x =>
      have hcl : cls dr o.op = 1 := by rw [ho]; rfl
      cases hx : s.ev none x with
      | ep t v =>
        by_cases hn : Γ.ty n = some t
        · have key : ∀ s2, AgX o s s2 → ∀ (ρ : Type) (K : St → Option ρ), opK Γ E dr o s2 K = K (s2.put o.dst (toTV t v)) := by
            intro s2 h ρ K
            simp only [opK, ho, h x (by simp [ho, Op.operands]), hx, if_pos hn]
          refine ⟨some ⟨toTV t v, s.S, s.O, s.c⟩, fun s2 h hS hO hc ρ K => ?_, fun h => by omega, fun _ e he => ?_, fun h => by omega⟩
          · rw [key s2 h]
            show K _ = K _
            rw [on_same (s2 := s2) hS.symm hO.symm hc.symm]
          · cases he
            exact ⟨⟨rfl, rfl, rfl⟩, fun s2 h _ ρ K => key s2 h ρ K⟩
        · refine ⟨none, fun s2 h hS hO hc ρ K => ?_, fun h => by omega, fun _ e he => (by cases he), fun h => by omega⟩
          simp only [opK, ho, h x (by simp [ho, Op.operands]), hx, if_neg hn]; rfl
      | ptr i p =>
        cases hs : s.S[i]? with
        | none =>
          refine ⟨none, fun s2 h hS hO hc ρ K => ?_, fun h => by omega, fun _ e he => (by cases he), fun h => by omega⟩
          simp only [opK, ho, h x (by simp [ho, Op.operands]), hx, hS, hs]; rfl
        | some cs =>
          cases hp : plain cs with
          | false =>
            refine ⟨none, fun s2 h hS hO hc ρ K => ?_, fun h => by omega, fun _ e he => (by cases he), fun h => by omega⟩
            simp only [opK, ho, h x (by simp [ho, Op.operands]), hx, hS, hs, hp]; rfl
          | true =>
          cases hv : loadTV Γ n (cs.drop p) with
          | none =>
            refine ⟨none, fun s2 h hS hO hc ρ K => ?_, fun h => by omega, fun _ e he => (by cases he), fun h => by omega⟩
            simp only [opK, ho, h x (by simp [ho, Op.operands]), hx, hS, hs, hp, must, cond_true, hv]; rfl
          | some v =>
            refine ⟨some ⟨v, s.S, s.O, s.c⟩, fun s2 h hS hO hc ρ K => ?_, fun h => by omega, fun _ e he => ?_, fun h => by omega⟩
            · simp only [opK, ho, h x (by simp [ho, Op.operands]), hx, hS, hs, hp, must, cond_true, hv, kTV]
              show K _ = K _
              rw [on_same (s2 := s2) hS.symm hO.symm hc.symm]
            · cases he
              refine ⟨⟨rfl, rfl, rfl⟩, fun s2 h hS ρ K => ?_⟩
              simp only [opK, ho, h x (by simp [ho, Op.operands]), hx, hS i cs hs, hp, must, cond_true, hv, kTV]
      | ref r i =>
        have nn : (∀ s2, AgX o s s2 → s2.S = s.S → ∀ (ρ : Type) (K : St → Option ρ), opK Γ E dr o s2 K = none) → ∃ oe, OpE Γ E dr o s oe := fun hn =>
          ⟨none, fun s2 h hS hO hc ρ K => hn s2 h hS ρ K, fun h => by omega, fun _ e he => (by cases he), fun h => by omega⟩
        cases r with
        | pel t j f =>
          cases f with
          | some f => exact nn fun s2 h hS ρ K => by simp only [opK, ho, h x (by simp [ho, Op.operands]), hx]
          | none =>
            by_cases hn : Γ.ty n = some t
            · cases hr : rowAt s.S t i with
              | none => exact nn fun s2 h hS ρ K => by simp only [opK, ho, h x (by simp [ho, Op.operands]), hx, if_pos hn, hS, hr]; rfl
              | some l =>
                cases hj : l[j]? with
                | none => exact nn fun s2 h hS ρ K => by simp only [opK, ho, h x (by simp [ho, Op.operands]), hx, if_pos hn, hS, hr, Option.bind_some, hj]; rfl
                | some y =>
                  refine ⟨some ⟨toTV t y, s.S, s.O, s.c⟩, fun s2 h hS hO hc ρ K => ?_, fun h => by omega, fun _ e he => ?_, fun h => by omega⟩
                  · simp only [opK, ho, h x (by simp [ho, Op.operands]), hx, if_pos hn, hS, hr, Option.bind_some, hj]
                    show K _ = K _
                    rw [on_same (s2 := s2) hS.symm hO.symm hc.symm]
                  · cases he
                    refine ⟨⟨rfl, rfl, rfl⟩, fun s2 h hS ρ K => ?_⟩
                    have hr2 : rowAt s2.S t i = some l := by
                      have h1 : s.S[i]? = some [.blk (.row t l)] := by
                        unfold rowAt at hr
                        split at hr
                        · rename_i t' l' hs
                          by_cases ht : t' = t
                          · subst ht
                            rw [dif_pos rfl] at hr
                            cases hr
                            exact hs
                          · rw [dif_neg ht] at hr; cases hr
                        · cases hr
                      unfold rowAt
                      rw [hS i _ h1]
                      simp
                    simp only [opK, ho, h x (by simp [ho, Op.operands]), hx, if_pos hn, hr2, Option.bind_some, hj]
            · exact nn fun s2 h hS ρ K => by simp only [opK, ho, h x (by simp [ho, Op.operands]), hx, if_neg hn]
        | _ => exact nn fun s2 h hS ρ K => by simp only [opK, ho, h x (by simp [ho, Op.operands]), hx]
      | _ =>
        refine ⟨none, fun s2 h hS hO hc ρ K => ?_, fun h => by omega, fun _ e he => (by cases he), fun h => by omega⟩
        simp only [opK, ho, h x (by simp [ho, Op.operands]), hx]; rfl
    case alloc e =>
      have hcl : cls dr o.op = 2 := by rw [ho]; rfl
      cases ht : Γ.ty e with
      | none =>
        refine ⟨none, fun s2 h hS hO hc ρ K => ?_, fun h => by omega, fun h => by omega, fun _ e he => by cases he⟩
        simp only [opK, ho, ht]; rfl
      | some t =>
        refine ⟨some ⟨.ptr s.S.length 0, s.S ++ [zeroCells t], s.O, s.c⟩, fun s2 h hS hO hc ρ K => ?_, fun h => by omega, fun h => by omega, fun _ e he => ?_⟩
        · simp only [opK, ho, ht]
          rw [hS, hO, hc]; show K _ = K _; unfold Eff.on; rfl
        · cases he
          exact ⟨fun p cs hp => by show (s.S ++ _)[p]? = _; rw [List.getElem?_append_left (List.getElem?_eq_some_iff.1 hp).1]; exact hp, rfl, rfl⟩
    case box e x =>
      have hcl : cls dr o.op = 2 := by rw [ho]; rfl
      cases ht : Γ.ty e with
      | none =>
        refine ⟨none, fun s2 h hS hO hc ρ K => ?_, fun h => by omega, fun h => by omega, fun _ e he => by cases he⟩
        simp only [opK, ho, ht]; rfl
      | some t =>
        cases hy : boxCells t (s.ev (some t) x) with
        | none =>
          refine ⟨none, fun s2 h hS hO hc ρ K => ?_, fun h => by omega, fun h => by omega, fun _ e he => by cases he⟩
          simp only [opK, ho, ht, h x (by simp [ho, Op.operands]), hy]; rfl
        | some y =>
          refine ⟨some ⟨.ptr s.S.length 0, s.S ++ [y], s.O, s.c⟩, fun s2 h hS hO hc ρ K => ?_, fun h => by omega, fun h => by omega, fun _ e he => ?_⟩
          · simp only [opK, ho, ht, h x (by simp [ho, Op.operands]), hy]
            rw [hS, hO, hc]; show K _ = K _; unfold Eff.on; rfl
          · cases he
            exact ⟨fun p cs hp => by show (s.S ++ _)[p]? = _; rw [List.getElem?_append_left (List.getElem?_eq_some_iff.1 hp).1]; exact hp, rfl, rfl⟩
    case makeSlice n x y =>
      have hcl : cls dr o.op = 2 := by rw [ho]; rfl
      have nn : (∀ s2, AgX o s s2 → s2.S = s.S → ∀ (ρ : Type) (K : St → Option ρ), opK Γ E dr o s2 K = none) → ∃ oe, OpE Γ E dr o s oe := fun hn =>
        ⟨none, fun s2 h hS hO hc ρ K => hn s2 h hS ρ K, fun h => by omega, fun h => by omega, fun _ e he => (by cases he)⟩
      cases ht : Γ.ty n with
      | none => exact nn fun s2 h hS ρ K => by simp only [opK, ho, ht]
      | some tt =>
        cases tt with
        | sl t =>
          cases hx : s.ev none x with
          | int k p =>
            cases hy : s.ev none y with
            | int k2 q =>
              cases hb : (decide (0 ≤ p) && beqI p q) with
              | false => exact nn fun s2 h hS ρ K => by simp only [opK, ho, ht, h x (by simp [ho, Op.operands]), h y (by simp [ho, Op.operands]), hx, hy, makeK, hb]; rfl
              | true =>
                by_cases hlim : p.toNat ≤ LIM
                · refine ⟨some ⟨.ref (.asl t) s.S.length, s.S ++ [[TV.blk (.row t (List.replicate p.toNat (zero t)))]], s.O, s.c⟩, fun s2 h hS hO hc ρ K => ?_, fun h => by omega, fun h => by omega, fun _ e he => ?_⟩
                  · simp only [opK, ho, ht, h x (by simp [ho, Op.operands]), h y (by simp [ho, Op.operands]), hx, hy, makeK, hb, must, cond_true, lim, if_pos hlim]
                    rw [hS, hO, hc]; show K _ = K _; unfold Eff.on; rfl
                  · cases he
                    exact ⟨fun p cs hp => by show (s.S ++ _)[p]? = _; rw [List.getElem?_append_left (List.getElem?_eq_some_iff.1 hp).1]; exact hp, rfl, rfl⟩
                · exact nn fun s2 h hS ρ K => by simp only [opK, ho, ht, h x (by simp [ho, Op.operands]), h y (by simp [ho, Op.operands]), hx, hy, makeK, hb, must, cond_true, lim, if_neg hlim]
            | _ => exact nn fun s2 h hS ρ K => by simp only [opK, ho, ht, h x (by simp [ho, Op.operands]), h y (by simp [ho, Op.operands]), hx, hy]
          | _ => exact nn fun s2 h hS ρ K => by simp only [opK, ho, ht, h x (by simp [ho, Op.operands]), hx]
        | _ => exact nn fun s2 h hS ρ K => by simp only [opK, ho, ht]
    case store n x y =>
      have hcl : cls dr o.op = 3 := by rw [ho]; rfl
      have mk : ∀ oe : Option Eff, (∀ s2, AgX o s s2 → s2.S = s.S → s2.O = s.O → s2.c = s.c → ∀ (ρ : Type) (K : St → Option ρ), opK Γ E dr o s2 K = oe.bind fun e => K (e.on s2 o.dst)) → ∃ oe, OpE Γ E dr o s oe :=
        fun oe h => ⟨oe, h, fun h => by omega, fun h => by omega, fun h => by omega⟩
      cases hx : s.ev none x with
      | ptr i p =>
        cases hs : s.S[i]? with
        | none => exact mk none fun s2 h hS hO hc ρ K => by simp only [opK, ho, h x (by simp [ho, Op.operands]), h y (by simp [ho, Op.operands]), hx, hS, hs]; rfl
        | some cs =>
          cases hv : cellsTV (s.ev (Γ.ty n) y) with
          | none => exact mk none fun s2 h hS hO hc ρ K => by simp only [opK, ho, h x (by simp [ho, Op.operands]), h y (by simp [ho, Op.operands]), hx, hS, hs, hv]; rfl
          | some vs =>
            cases hsp : splice cs p vs with
            | none => exact mk none fun s2 h hS hO hc ρ K => by simp only [opK, ho, h x (by simp [ho, Op.operands]), h y (by simp [ho, Op.operands]), hx, hS, hs, hv, hsp]; rfl
            | some cs' =>
              cases hst : (plain cs && storable Γ n (s.ev (Γ.ty n) y)) with
              | false => exact mk none fun s2 h hS hO hc ρ K => by simp only [opK, ho, h x (by simp [ho, Op.operands]), h y (by simp [ho, Op.operands]), hx, hS, hs, hv, hsp, hst]; rfl
              | true =>
                exact mk (some ⟨.skip, s.S.set i cs', s.O, s.c⟩) fun s2 h hS hO hc ρ K => by
                  simp only [opK, ho, h x (by simp [ho, Op.operands]), h y (by simp [ho, Op.operands]), hx, hS, hs, hv, hsp, hst, cond_true]
                  rw [hO, hc]; show K _ = K _; unfold Eff.on; rfl
      | ref r i =>
        cases r with
        | pel t j f =>
          cases f with
          | some f => exact mk none fun s2 h hS hO hc ρ K => by simp only [opK, ho, h x (by simp [ho, Op.operands]), hx]; rfl
          | none =>
            by_cases hn : Γ.ty n = some t
            · obtain ⟨oe, hoe⟩ := storeP_nat s o.dst t j i (s.ev (Γ.ty n) y)
              exact mk oe fun s2 h hS hO hc ρ K => by
                simp only [opK, ho, h x (by simp [ho, Op.operands]), h y (by simp [ho, Op.operands]), hx, if_pos hn]
                exact hoe s2 hS hO hc ρ K
            · exact mk none fun s2 h hS hO hc ρ K => by simp only [opK, ho, h x (by simp [ho, Op.operands]), hx, if_neg hn]; rfl
        | _ => exact mk none fun s2 h hS hO hc ρ K => by simp only [opK, ho, h x (by simp [ho, Op.operands]), hx]; rfl
      | _ => exact mk none fun s2 h hS hO hc ρ K => by simp only [opK, ho, h x (by simp [ho, Op.operands]), h y (by simp [ho, Op.operands]), hx]; rfl
    case call c =>
      obtain ⟨callee, args, ns⟩ := c
      have mk : cls dr o.op = 3 → ∀ oe : Option Eff, (∀ s2, AgX o s s2 → s2.S = s.S → s2.O = s.O → s2.c = s.c → ∀ (ρ : Type) (K : St → Option ρ), opK Γ E dr o s2 K = oe.bind fun e => K (e.on s2 o.dst)) → ∃ oe, OpE Γ E dr o s oe :=
        fun hcl oe h => ⟨oe, h, fun h => by omega, fun h => by omega, fun h => by omega⟩
      cases callee with
      | invoke r m => exact mk (by rw [ho]; rfl) none fun s2 h hS hO hc ρ K => by simp only [opK, ho]; rfl
      | value f =>
        cases dr with
        | true => rw [ho] at h0; exact absurd rfl h0
        | false =>
          have hcl : cls false o.op = 3 := by rw [ho]; rfl
          cases hf : s.ev none f with
          | fn g caps =>
            cases hg : E.find g (s.evs Γ.ty args.toList ns.toList ++ tidy.go (fun _ => false) caps) with
            | none =>
              refine mk hcl none fun s2 h hS hO hc ρ K => ?_
              have h1 := h f (by simp [ho, Op.operands, Call.operands])
              have h2 : s2.evs Γ.ty args.toList ns.toList = s.evs Γ.ty args.toList ns.toList := evs_congr _ _ _ fun x hx => h x (by simp [ho, Op.operands, Call.operands, Array.mem_toList_iff.1 hx])
              simp only [opK, ho, callK, h1, hf, h2, hg]; rfl
            | some sp =>
              cases hl : lends sp.pars (s.evs Γ.ty args.toList ns.toList ++ tidy.go (fun _ => false) caps) with
              | true =>
                obtain ⟨oe, hoe⟩ := callB_nat hE hg (s.evs Γ.ty args.toList ns.toList ++ tidy.go (fun _ => false) caps) s o.dst
                refine mk hcl oe fun s2 h hS hO hc ρ K => ?_
                have h1 := h f (by simp [ho, Op.operands, Call.operands])
                have h2 : s2.evs Γ.ty args.toList ns.toList = s.evs Γ.ty args.toList ns.toList := evs_congr _ _ _ fun x hx => h x (by simp [ho, Op.operands, Call.operands, Array.mem_toList_iff.1 hx])
                simp only [opK, ho, callK, h1, hf, h2, hg, hl, Bool.not_false, Bool.and_self, cond_true]
                exact hoe s2 hS hO hc ρ K
              | false =>
              obtain ⟨oe, hoe⟩ := callS_false hE hg (s.evs Γ.ty args.toList ns.toList ++ tidy.go (fun _ => false) caps) (reach s.S 64 [] (tvPtrs.go (s.evs Γ.ty args.toList ns.toList ++ tidy.go (fun _ => false) caps))) s
              refine mk hcl oe fun s2 h hS hO hc ρ K => ?_
              have h1 := h f (by simp [ho, Op.operands, Call.operands])
              have h2 : s2.evs Γ.ty args.toList ns.toList = s.evs Γ.ty args.toList ns.toList := evs_congr _ _ _ fun x hx => h x (by simp [ho, Op.operands, Call.operands, Array.mem_toList_iff.1 hx])
              simp only [opK, ho, callK, h1, hf, h2, hg, hl, Bool.and_false, cond_false, hS]
              exact hoe s2 hS hO hc o.dst ρ K
          | _ =>
            refine mk hcl none fun s2 h hS hO hc ρ K => ?_
            have h1 := h f (by simp [ho, Op.operands, Call.operands])
            simp only [opK, ho, callK, h1, hf]; rfl
      | builtin b =>
        cases b
        case append =>
          have hcl : cls dr o.op = 3 := by rw [ho]; rfl
          have h1 : ∀ s2, AgX o s s2 → ∀ x ∈ args.toList, ∀ t, s2.ev t x = s.ev t x := fun s2 h x hx => h x (by simp [ho, Op.operands, Call.operands, Array.mem_toList_iff.1 hx])
          rcases hl : args.toList with _ | ⟨x, _ | ⟨y, _ | ⟨z, l⟩⟩⟩
          · exact mk hcl none fun s2 h hS hO hc ρ K => by simp only [opK, ho, hl]; rfl
          · exact mk hcl none fun s2 h hS hO hc ρ K => by simp only [opK, ho, hl]; rfl
          · rcases hn : ns.toList with _ | ⟨n, _ | ⟨m, _ | ⟨k, l'⟩⟩⟩
            · exact mk hcl none fun s2 h hS hO hc ρ K => by simp only [opK, ho, hl, hn]; rfl
            · exact mk hcl none fun s2 h hS hO hc ρ K => by simp only [opK, ho, hl, hn]; rfl
            · have e1 : ∀ s2, AgX o s s2 → ∀ t, s2.ev t x = s.ev t x := fun s2 h => h1 s2 h x (by rw [hl]; simp)
              have e2 : ∀ s2, AgX o s s2 → ∀ t, s2.ev t y = s.ev t y := fun s2 h => h1 s2 h y (by rw [hl]; simp)
              obtain ⟨oe, hoe⟩ := appendK_nat (Γ := Γ) s o.dst n m (s.ev (Γ.ty n) x) (s.ev (Γ.ty m) y)
              exact mk hcl oe fun s2 h hS hO hc ρ K => by
                simp only [opK, ho, hl, hn, e1 s2 h, e2 s2 h]
                exact hoe s2 hS hO hc ρ K
            · exact mk hcl none fun s2 h hS hO hc ρ K => by simp only [opK, ho, hl, hn]; rfl
          · exact mk hcl none fun s2 h hS hO hc ρ K => by simp only [opK, ho, hl]; rfl
        case copy =>
          have hcl : cls dr o.op = 3 := by rw [ho]; rfl
          have h1 : ∀ s2, AgX o s s2 → ∀ x ∈ args.toList, ∀ t, s2.ev t x = s.ev t x := fun s2 h x hx => h x (by simp [ho, Op.operands, Call.operands, Array.mem_toList_iff.1 hx])
          rcases hl : args.toList with _ | ⟨x, _ | ⟨y, _ | ⟨z, l⟩⟩⟩
          · exact mk hcl none fun s2 h hS hO hc ρ K => by simp only [opK, ho, hl]; rfl
          · exact mk hcl none fun s2 h hS hO hc ρ K => by simp only [opK, ho, hl]; rfl
          · rcases hn : ns.toList with _ | ⟨n, _ | ⟨m, _ | ⟨k, l'⟩⟩⟩
            · exact mk hcl none fun s2 h hS hO hc ρ K => by simp only [opK, ho, hl, hn]; rfl
            · exact mk hcl none fun s2 h hS hO hc ρ K => by simp only [opK, ho, hl, hn]; rfl
            · have e1 : ∀ s2, AgX o s s2 → ∀ t, s2.ev t x = s.ev t x := fun s2 h => h1 s2 h x (by rw [hl]; simp)
              have e2 : ∀ s2, AgX o s s2 → ∀ t, s2.ev t y = s.ev t y := fun s2 h => h1 s2 h y (by rw [hl]; simp)
              obtain ⟨oe, hoe⟩ := copyK_nat (Γ := Γ) s o.dst n m (s.ev none x) (s.ev (Γ.ty m) y)
              exact mk hcl oe fun s2 h hS hO hc ρ K => by
                simp only [opK, ho, hl, hn, e1 s2 h, e2 s2 h]
                exact hoe s2 hS hO hc ρ K
            · exact mk hcl none fun s2 h hS hO hc ρ K => by simp only [opK, ho, hl, hn]; rfl
          · exact mk hcl none fun s2 h hS hO hc ρ K => by simp only [opK, ho, hl]; rfl
        all_goals first
          | (rw [ho] at h0; exact absurd rfl h0)
          | exact mk (by rw [ho]; rfl) none fun s2 h hS hO hc ρ K => by simp only [opK, ho]; rfl
    all_goals first
      | (rw [ho] at h0; exact absurd rfl h0)
      | exact ⟨none, (fun s2 h hS hO hc ρ K => by simp only [opK, ho]; rfl), (fun h => absurd h h0), (fun _ e he => by cases he), (fun _ e he => by cases he)⟩

end
end Go.Proofs.Ytjongebmeoimoaa.Den
