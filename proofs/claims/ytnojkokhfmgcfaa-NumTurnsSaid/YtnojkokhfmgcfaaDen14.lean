/- Each operation by its reading. No conditions: laws. -/
import Derived.Test.YtnojkokhfmgcfaaDen13
namespace Go.Proofs.Ytnojkokhfmgcfaa.Den
open Go

section
variable {w0 : World} {M0 : Mem} {X : Fr} {s : St} {w : World} {M : Mem} {ι : Nat → Nat} {θ : Nat → Option Nat} {a : Act}
variable {P : Program} {ρ : Type} {r : ρ} {K : St → Option ρ} {N : Act → World → Prop} {Q : Exit → Act → World → Prop} {o : Oper} {Γ : Env} {E : Table} {dr : Bool}

theorem sim_convert (hΓ : EnvOk P Γ) (I : Inv w0 M0 X s w M ι θ) (T : TInv s w M ι θ a) (G : Goes w0 M0 X r K N) {src dst : TypeId} {x : Operand} (ho : o.op = .convert src dst x)
    (h : kTV K s o.dst (convTV (s.ev none x) (Γ.ty src) (Γ.ty dst)) = some r) : o.wp P a w N Q := by
  obtain ⟨y, hy, hk⟩ := kTV_some h
  unfold convTV at hy
  have h1 := (ev_ok T none x).1
  split at hy
  · rename_i k0 n k hx hd
    split at hy
    · rename_i k1 hs
      cases hy
      rw [hx] at h1
      have hu := tyOk_int (hΓ.ty _ _ hs)
      have hu2 := tyOk_int (hΓ.ty _ _ hd)
      refine sim_flat I T G (v := .int k (k.wrap n)) ?_ hk ⟨rfl, inK_wr k n⟩ rfl
      simp [execOp, ho, h1.1, convert, run_underlying hu, run_underlying hu2, Conv.intToInt]
    · cases hy
  · rename_i l hx hd
    split at hy
    · rename_i hs
      cases hy
      rw [hx] at h1
      have hu := tyOk_str (hΓ.ty _ _ hs)
      have hu2 := tyOk_str (hΓ.ty _ _ hd)
      obtain ⟨p, h1, h2⟩ := h1
      refine sim_flat I T G (v := .string p) ?_ hk ⟨p, rfl, h2⟩ rfl
      simp [execOp, ho, h1, convert, run_underlying hu, run_underlying hu2]
    · cases hy
  · rename_i l hx hd
    split at hy
    · rename_i hs
      cases hy
      exact sim_toBytes hΓ I T G ho hx hs hd hk
    · cases hy
  · rename_i f nl l hx hd
    split at hy
    · rename_i hs
      cases hy
      exact sim_toStr hΓ I T G ho hx hs hd hk
    · cases hy
  · cases hy

theorem bnd_of (T : TInv s w M ι θ a) {x : Option Operand} {v : Option TV} {k : IntKind} {m : Int} {p d : Nat} (hx : x.map (s.ev none) = v) (hv : v = some (.int k m)) (hm : m = (p : Int)) : bnd (x.map a.eval) d p := by
  subst hv
  cases x with
  | none => simp at hx
  | some x =>
    have hx : s.ev none x = .int k m := Option.some.inj hx
    have h1 := (ev_ok T none x).1
    rw [hx] at h1
    exact .inr ⟨k, by rw [Option.map_some, h1.1, hm]⟩
theorem bnd_lo (T : TInv s w M ι θ a) {x : Option Operand} {k : IntKind} {m : Int} {p : Nat} (hx : (x.map (s.ev none)).getD (.int .i64 0) = .int k m) (hm : m = (p : Int)) : bnd (x.map a.eval) 0 p := by
  cases x with
  | none =>
    refine .inl ⟨rfl, ?_⟩
    have hx : TV.int .i64 0 = .int k m := hx
    injection hx with _ h2
    omega
  | some x => exact bnd_of T rfl (congrArg some hx) hm

theorem sliceK_sim (hΓ : EnvOk P Γ) (I : Inv w0 M0 X s w M ι θ) (T : TInv s w M ι θ a) (G : Goes w0 M0 X r K N) {n : TypeId} {x : Operand} {lo hi mx : Option Operand} (ho : o.op = .slice n x lo hi mx)
    (h : sliceK (Γ.ty n) s o.dst (s.ev (Γ.ty n) x) (lo.map (s.ev none)) (hi.map (s.ev none)) (mx.map (s.ev none)) K = some r) : o.wp P a w N Q := by
  unfold sliceK at h
  split at h
  · rename_i t f nl l k m hx hl
    split at h
    · rename_i hn
      split at h
      · rename_i hh hm
        obtain ⟨z, hz, hk⟩ := Option.bind_eq_some_iff.1 h
        obtain ⟨p, q, e1, e2, e3, e4, rfl⟩ := cut_some hz
        have e2 : q = l.length := by omega
        have hi0 : hi = none := by cases hi <;> simp_all
        have mx0 : mx = none := by cases mx <;> simp_all
        subst hi0 mx0
        refine sim_slice_one hΓ I T G ho hx hn (m := 0) (bnd_lo T hl e1) (.inl ⟨rfl, e2⟩) (.inl rfl) e3 e4 ?_ hk
        cases f <;> simp
      · rename_i k2 m2 hh hm
        obtain ⟨z, hz, hk⟩ := Option.bind_eq_some_iff.1 h
        obtain ⟨p, q, e1, e2, e3, e4, rfl⟩ := cut_some hz
        have mx0 : mx = none := by cases mx <;> simp_all
        subst mx0
        exact sim_slice_one hΓ I T G ho hx hn (m := 0) (bnd_lo T hl e1) (bnd_of T hh rfl e2) (.inl rfl) e3 e4 (.inl rfl) hk
      · rename_i k2 m2 k3 m3 hh hm
        cases hb : beqI m2 m3 with
        | false => rw [hb] at h; cases h
        | true =>
          rw [hb] at h
          have hb : m2 = m3 := by simpa [beqI] using hb
          subst hb
          obtain ⟨z, hz, hk⟩ := Option.bind_eq_some_iff.1 h
          obtain ⟨p, q, e1, e2, e3, e4, rfl⟩ := cut_some hz
          have mx0 : mx ≠ none := by intro h; simp [h] at hm
          have hi0 : hi ≠ none := by intro h; simp [h] at hh
          exact sim_slice_one hΓ I T G ho hx hn (m := q) (bnd_lo T hl e1) (bnd_of T hh rfl e2) (.inr ⟨hi0, rfl, bnd_of T hm rfl e2, mx0⟩) e3 e4 (.inr ⟨rfl, .inr mx0⟩) hk
      · cases h
    · cases h
  · rename_i l k m hx hl
    split at h
    · rename_i hn
      split at h
      · rename_i hh hm
        obtain ⟨z, hz, hk⟩ := Option.bind_eq_some_iff.1 h
        obtain ⟨p, q, e1, e2, e3, e4, rfl⟩ := cut_some hz
        have e2 : q = l.length := by omega
        have hi0 : hi = none := by cases hi <;> simp_all
        have mx0 : mx = none := by cases mx <;> simp_all
        subst hi0 mx0
        exact sim_slice_str hΓ I T G ho hx hn (bnd_lo T hl e1) (.inl ⟨rfl, e2⟩) e3 e4 hk
      · rename_i k2 m2 hh hm
        obtain ⟨z, hz, hk⟩ := Option.bind_eq_some_iff.1 h
        obtain ⟨p, q, e1, e2, e3, e4, rfl⟩ := cut_some hz
        have mx0 : mx = none := by cases mx <;> simp_all
        subst mx0
        exact sim_slice_str hΓ I T G ho hx hn (bnd_lo T hl e1) (bnd_of T hh rfl e2) e3 e4 hk
      · cases h
    · cases h
  · cases h

theorem list_of_toList {α : Type} {xs : Array α} {l : List α} (h : xs.toList = l) : xs = l.toArray := by rw [← h]

/-- The calls of functions are left to what is told of them. -/
theorem opK_sim (hΓ : EnvOk P Γ) (I : Inv w0 M0 X s w M ι θ) (T : TInv s w M ι θ a) (G : Goes w0 M0 X r K N)
    (hcall : ∀ f args ns, o.op = .call { callee := .value f, args := args, argTypes := ns } →
      callK E dr s o.dst (s.ev none f) (s.evs Γ.ty args.toList ns.toList) K = some r → o.wp P a w N Q)
    (h : opK Γ E dr o s K = some r) : o.wp P a w N Q := by
  unfold opK at h
  split at h
  · rename_i x ho; exact sim_move I T G (.inl ho) h
  · rename_i x ho; exact sim_move I T G (.inr ho) h
  · rename_i c x y ho
    split at h
    · rename_i b hb; exact sim_pick I T G ho hb h
    · cases h
  · rename_i op xt x y yt ho
    exact binK_sim hΓ I T G ho (ev_ok T _ x).1 (ev_ok T _ y).1 h
  · rename_i n x ho
    split at h
    · rename_i b hb; exact sim_not I T G ho hb h
    · cases h
  · rename_i n x ho
    split at h
    · rename_i k m hb; exact sim_neg I T G ho hb h
    · cases h
  · rename_i n x ho
    split at h
    · rename_i k m hb; exact sim_xor I T G ho hb h
    · cases h
  · rename_i src dst x ho; exact sim_convert hΓ I T G ho h
  · rename_i e ho
    split at h
    · rename_i t ht; exact sim_alloc hΓ I T G ho ht h
    · cases h
  · rename_i e x ho
    split at h
    · rename_i t ht
      split at h
      · rename_i y hy; exact sim_box hΓ I T G ho hy h
      · cases h
    · cases h
  · rename_i n ps ho
    split at h
    · rename_i b hb
      split at h
      · rename_i x hx; exact sim_build hΓ I T G ho hb hx h
      · cases h
    · cases h
  · rename_i n len ps ho
    split at h
    · rename_i t ht
      split at h
      · rename_i l hl
        cases hb : Nat.ble (len * t.size) 16777216 with
        | false => rw [hb] at h; cases h
        | true => rw [hb] at h; exact sim_buildSlice hΓ I T G ho ht hl hb h
      · cases h
    · cases h
  · rename_i n x ho
    split at h
    · rename_i t v hx
      split at h
      · rename_i hn; exact sim_loadEp hΓ I T G ho hx hn h
      · cases h
    · rename_i i p hx
      split at h
      · rename_i cs hs
        obtain ⟨v, hv, hk⟩ := kTV_some h
        exact sim_loadPtr hΓ I T G ho hx hs hv hk
      · cases h
    · cases h
  · rename_i n x y ho
    split at h
    · rename_i i p hx
      split at h
      · rename_i cs vs hs hv
        split at h
        · rename_i cs' hsp
          cases hst : storable Γ n (s.ev (Γ.ty n) y) with
          | false => rw [hst] at h; cases h
          | true => rw [hst] at h; exact sim_store hΓ I T G ho hx hs hv hsp hst h
        · cases h
      · cases h
    · cases h
  · rename_i x ho
    split at h
    · rename_i i p hx; exact sim_nil I T G ho (.inl ⟨i, p, hx⟩) (by rw [hx]; exact h)
    · rename_i t v hx; exact sim_nil I T G ho (.inr ⟨t, v, hx⟩) (by rw [hx]; exact h)
    · cases h
  · rename_i n x f ho
    split at h
    · rename_i i p hx
      split at h
      · rename_i q hq; exact sim_fieldPtr hΓ I T G ho hx hq h
      · cases h
    · rename_i b v hx
      split at h
      · rename_i hn
        obtain ⟨q, hq, hk⟩ := kTV_some h
        exact sim_fieldEp hΓ I T G ho hx hn hq hk
      · cases h
    · cases h
  · rename_i n x f ho
    split at h
    · rename_i b v hx
      split at h
      · rename_i hn
        obtain ⟨q, hq, hk⟩ := kTV_some h
        exact sim_fieldTV hΓ I T G ho hx hn hq hk
      · cases h
    · cases h
  · rename_i n x y ho
    split at h
    · rename_i t f nl l k j hx hy
      split at h
      · rename_i hn
        obtain ⟨v, hv, hk⟩ := Option.bind_eq_some_iff.1 h
        exact sim_indexAddr hΓ I T G ho hx hy hn hv hk
      · cases h
    · cases h
  · rename_i n x y ho
    split at h
    · rename_i l k j hx hy
      split at h
      · rename_i hn
        obtain ⟨v, hv, hk⟩ := Option.bind_eq_some_iff.1 h
        exact sim_index hΓ I T G ho hx hy hn hv hk
      · cases h
    · cases h
  · rename_i n x lo hi mx ho; exact sliceK_sim hΓ I T G ho h
  · rename_i f first caps ho
    split at h
    · rename_i hf
      have hf : first = #[] := list_of_toList hf
      subst hf
      exact sim_makeFunc I T G ho h
    · cases h
  · rename_i x i ho
    split at h
    · rename_i l hx
      split at h
      · rename_i v hv; exact sim_extract I T G ho hx hv h
      · cases h
    · cases h
  · rename_i args ns ho
    split at h
    · rename_i x n h1 h2
      have h1 := list_of_toList h1
      have h2 := list_of_toList h2
      subst h1 h2
      split at h
      · rename_i t f nl l hx
        split at h
        · rename_i hn
          obtain ⟨e, he, _⟩ := tyOk_sl (hΓ.ty _ _ hn)
          exact sim_len I T G ho (.inl ⟨t, f, nl, l, hx, rfl, e, he⟩) h
        · cases h
      · rename_i l hx
        split at h
        · rename_i hn
          exact sim_len I T G ho (.inr ⟨l, hx, rfl, tyOk_str (hΓ.ty _ _ hn)⟩) h
        · cases h
      · cases h
    · cases h
  · rename_i args ns ho
    split at h
    · rename_i x y n m h1 h2
      have h1 := list_of_toList h1
      have h2 := list_of_toList h2
      subst h1 h2
      split at h
      · rename_i t f nl l t' f2 nl2 l2 hx hy
        split at h
        · rename_i ht
          subst ht
          split at h
          · rename_i hn
            obtain ⟨rfl, hn⟩ := hn
            unfold appK at h
            cases hs : maySay s f with
            | false => rw [hs] at h; cases h
            | true =>
              rw [hs] at h
              have h : lim _ _ = some r := h
              unfold lim at h
              split at h
              · rename_i hl
                exact sim_append hΓ I T G ho hx hy hn hs hl h
              · cases h
          · cases h
        · cases h
      · cases h
    · cases h
  · rename_i args ns ho
    split at h
    · rename_i x y h1
      have h1 := list_of_toList h1
      subst h1
      split at h
      · rename_i k p k' q hx hy
        split at h
        · rename_i hk; subst hk; exact sim_mn I T G ho hx hy h
        · cases h
      · cases h
    · cases h
  · rename_i args ns ho
    split at h
    · rename_i x y h1
      have h1 := list_of_toList h1
      subst h1
      split at h
      · rename_i k p k' q hx hy
        split at h
        · rename_i hk; subst hk; exact sim_mx I T G ho hx hy h
        · cases h
      · cases h
    · cases h
  · rename_i f args ns ho; exact hcall f args ns ho h
  · cases h

end
end Go.Proofs.Ytnojkokhfmgcfaa.Den
