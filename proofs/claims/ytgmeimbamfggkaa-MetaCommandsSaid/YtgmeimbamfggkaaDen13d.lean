/- Arrays: laid like structs of so many alike. No conditions: laws. -/
import Derived.Test.YtgmeimbamfggkaaDen13c
namespace Go.Proofs.Ytgmeimbamfggkaa.Den
open Go

section
variable {w0 : World} {M0 : Mem} {X : Fr} {s : St} {w : World} {M : Mem} {ι : Nat → Nat} {θ : Nat → Option Nat} {a : Act}
variable {P : Program} {ρ : Type} {r : ρ} {K : St → Option ρ} {N : Act → World → Prop} {Q : Exit → Act → World → Prop} {o : Oper} {Γ : Env} {E : Table} {dr : Bool}

theorem cellsOf_okA {t : Ty} {n : TypeId} (h : tyOk P t n = true) : P.cellsOf n = t.size ∧ 0 < t.size := by
  obtain ⟨i, hi, hs, _, hp, _⟩ := infoOk_spec (tyOk_info h)
  unfold Program.cellsOf
  rw [hi]
  exact ⟨hs, hp⟩
/-! ### Arrays -/
theorem arFlds_get {e k : Nat} : ∀ (m o i : Nat) (fd : Field), (arFlds e k o m)[i]? = some fd → fd.type = e ∧ fd.offset = o + i * k ∧ i < m
  | 0, _, _, _, h => by simp [arFlds] at h
  | m + 1, o, 0, fd, h => by
    simp only [arFlds, List.getElem?_cons_zero, Option.some.injEq] at h
    subst h
    exact ⟨rfl, by simp, by omega⟩
  | m + 1, o, i + 1, fd, h => by
    obtain ⟨h1, h2, h3⟩ := arFlds_get m (o + k) i fd (by simpa [arFlds] using h)
    exact ⟨h1, by rw [h2, Nat.succ_mul]; omega, by omega⟩
theorem sim_allocA (hΓ : EnvOk P Γ) (I : Inv w0 M0 X s w M ι θ) (T : TInv s w M ι θ a) (G : Goes w0 M0 X r K N) {e : TypeId} (ho : o.op = .alloc e) {b : Ty} {m en : Nat} (hn : Γ.ar e = some (b, m, en))
    (hk : K ({ s with S := s.S ++ [zeroCells (.st b)] }.put o.dst (.ptr s.S.length 0)) = some r) : o.wp P a w N Q := by
  obtain ⟨inf, hi, _, _, _, z, hz, hz2, _, _⟩ := infoOk_spec (hΓ.ar _ _ _ _ hn).2.2.1
  obtain ⟨c, hc, k1, k2, k3⟩ := zeroCells_fits (M := M) (ι := ι) (.st b) _ _ hz2
  rw [List.append_nil] at hc
  refine tail_newObj I T G (vs := c) (e := e) ?_ k1 k2 k3 hk
  have : z.cells = c.toArray := by rw [← hc]
  simp [execOp, ho, Instr.alloc, zeroValue, typeInfo, hi, hz, newVar, newRow, this, World.alloc, -World.alloc_eq]
theorem buildA_ok (T : TInv s w M ι θ a) {b : Ty} {fs : List Field} {pl : Nat → Option (Nat × Nat)} (hf : fldOk P b fs 0 = true)
    (hp : ∀ (i : Nat) fd inf, fs[i]? = some fd → P.info? fd.type = some inf → pl i = some (fd.offset, inf.size)) :
    ∀ (ps : List (Nat × Operand)) (d d' : b.D) (cs : List Value), rep M b cs d → buildD s b ps d = some d' →
      ∃ cs', Instr.fill pl cs.toArray (ps.map fun (i, x) => (i, a.eval x)) = some cs'.toArray ∧ rep M b cs' d'
  | [], d, d', cs, hr, h => by cases h; exact ⟨cs, rfl, hr⟩
  | (i, x) :: ps, d, d', cs, hr, h => by
    have h : (setD s b i x d).bind (buildD s b ps) = some d' := h
    obtain ⟨m, h1, h2⟩ := Option.bind_eq_some_iff.1 h
    obtain ⟨fd, us, q, inf, e1, e2, e3, e4, e5, e6, e7⟩ := setD_ok T b fs 0 i d m cs hf hr h1
    obtain ⟨cs', k1, k2⟩ := buildA_ok T hf hp ps m d' _ e7 h2
    refine ⟨cs', ?_, k2⟩
    rw [List.map_cons, fill_cons _ i q (a.eval x) us cs _ ?_ e5 e6]
    · exact k1
    · rw [hp i fd inf e1 e3, e2, e4, Nat.zero_add]
theorem sim_buildA (hΓ : EnvOk P Γ) (I : Inv w0 M0 X s w M ι θ) (T : TInv s w M ι θ a) (G : Goes w0 M0 X r K N) {n : TypeId} {ps : Array (Nat × Operand)} (ho : o.op = .build n ps) {b : Ty} {m e : Nat} {x : b.D}
    (hn : Γ.ar n = some (b, m, e)) (hb : buildD s b ps.toList (zero b) = some x) (hk : K (s.put o.dst (.st (.st b) x)) = some r) : o.wp P a w N Q := by
  obtain ⟨hu, hf, hinf, hes⟩ := hΓ.ar _ _ _ _ hn
  obtain ⟨inf, hi, _, _, _, z, hz, hz2, _, _⟩ := infoOk_spec hinf
  obtain ⟨c, hc, hr⟩ := zero_rep (M := M) (.st b) _ _ hz2
  rw [List.append_nil] at hc
  have hz3 : z.cells = c.toArray := by rw [← hc]
  cases hie : P.info? e with
  | none => rw [hie] at hes; cases hes
  | some ie =>
    have hsz : P.cellsOf e = ie.size := by unfold Program.cellsOf; rw [hie]; rfl
    obtain ⟨cs', k1, k2⟩ := buildA_ok T hf (pl := fun i => some (i * ie.size, ie.size)) (fun i fd inf' h1 h2 => by
      obtain ⟨q1, q2, _⟩ := arFlds_get _ _ _ _ h1
      rw [q1, hie] at h2
      cases h2
      rw [q2, hsz, Nat.zero_add]) ps.toList (zero b) x c hr hb
    refine sim_flat I T G (v := .agg cs'.toArray) ?_ hk ⟨cs', rfl, k2⟩ rfl
    have hbu : P.built n (ps.map fun (i, x) => (i, a.eval x)).toList = some cs'.toArray := by
      unfold Program.built
      simp only [hi, hu, hz, hie]
      rw [hz3, Array.toList_map]
      exact k1
    simp only [execOp, ho, Sem.run_bind, run_build w n _ _ hbu, Result.andThen_ok, Sem.run_pure]
theorem sim_indexA (hΓ : EnvOk P Γ) (I : Inv w0 M0 X s w M ι θ) (T : TInv s w M ι θ a) (G : Goes w0 M0 X r K N) {n : TypeId} {x y : Operand} (ho : o.op = .index n x y) {b : Ty} {m e p : Nat} {k : IntKind} {v : b.D} {q : TV}
    (hc : s.ev none x = .st (.st b) v) (hy : s.ev none y = .int k (p : Int)) (hn : Γ.ar n = some (b, m, e)) (hq : fieldTV b p v = some q) (hk : K (s.put o.dst q) = some r) : o.wp P a w N Q := by
  obtain ⟨h1, _, _⟩ := ev_ok T none x
  obtain ⟨h2, _, _⟩ := ev_ok T none y
  rw [hc] at h1
  rw [hy] at h2
  obtain ⟨cs, h1, h3⟩ := h1
  obtain ⟨hu, hf, _⟩ := hΓ.ar _ _ _ _ hn
  obtain ⟨fd, t, y', c1, c2, c3, e1, _, e3, e4, e5, e6, e7, e8⟩ := field_ok b (arFlds e (P.cellsOf e) 0 m) 0 p v cs hf h3 q (.inr hq)
  have e3 := e3 hq
  subst e3
  obtain ⟨g1, g2, g3⟩ := arFlds_get _ _ _ _ e1
  obtain ⟨np1, np2⟩ := tyOk_np e6
  have hp := run_part_ty (P := P) (w := w) e6 (rep_length t c2 y' e8) c1 c3
  have hoff : c1.length = p * t.size := by
    have := (cellsOf_okA e6).1
    rw [g1] at this
    rw [← this]; omega
  have hsz := tyOk_size e6 w
  rw [g1] at hsz hp
  rw [← e4, hoff] at hp
  refine sim_flat I T G (v := valOf t c2) ?_ hk (rv_of_rep e8 np1 np2) (flat_toTV _ _)
  have hb : 0 ≤ (p : Int) ∧ (p : Int) < (m : Int) := by omega
  simp only [execOp, ho, h1, h2.1, Instr.index, Sem.run_bind, asIntOf, Sem.run_pure, run_underlying hu, Result.andThen_ok, if_pos hb, hsz, Int.toNat_natCast, hp]
theorem sim_indexAddrA (hΓ : EnvOk P Γ) (I : Inv w0 M0 X s w M ι θ) (T : TInv s w M ι θ a) (G : Goes w0 M0 X r K N) {n : TypeId} {x y : Operand} (ho : o.op = .indexAddr n x y) {b t : Ty} {m e p i z d : Nat} {k : IntKind}
    (hc : s.ev none x = .ptr i z) (hy : s.ev none y = .int k (p : Int)) (hn : Γ.ar n = some (b, m, e)) (hq : fldT b p = some (t, d)) (hk : K (s.put o.dst (.ptr i (z + d))) = some r) : o.wp P a w N Q := by
  obtain ⟨h1, _, h3⟩ := ev_ok T none x
  obtain ⟨h2, _, _⟩ := ev_ok T none y
  rw [hc] at h1 h3
  rw [hy] at h2
  have h1 : a.eval x = .pointer (some ⟨ι i, z, none⟩) := h1
  obtain ⟨hu, hf, _⟩ := hΓ.ar _ _ _ _ hn
  obtain ⟨fd, e1, e2, e3⟩ := fldT_ok b (arFlds e (P.cellsOf e) 0 m) 0 p t d hf hq
  obtain ⟨g1, g2, g3⟩ := arFlds_get _ _ _ _ e1
  have hsz := tyOk_size e3 w
  have hcc := (cellsOf_okA e3).1
  rw [g1] at hsz hcc
  have hd : d = p * t.size := by rw [← hcc]; omega
  have hel : P.elem n = e := by unfold Program.elem; rw [hu]
  have hal : P.arrayLen n = m := by unfold Program.arrayLen; rw [hu]
  refine sim_put I T G (v := .pointer (some ⟨ι i, z + d, none⟩)) ?_ hk rfl trivial h3
  have hb : 0 ≤ (p : Int) ∧ (p : Int) < (m : Int) := by omega
  simp only [execOp, ho, h1, h2.1, Sem.run_bind]
  rw [run_indexAt_array w n _ _ _ (by rw [hel, hal]; exact hu), hel, hal, if_pos hb, hsz]
  simp only [Result.andThen_ok, Sem.run_pure, add_at, Int.toNat_natCast, hd]
end
end Go.Proofs.Ytgmeimbamfggkaa.Den
