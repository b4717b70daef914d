/- What an operation looks at and what it changes. No conditions: laws. -/
import Derived.Test.YtnojkokhfmgcfaaDen2
namespace Go.Proofs.Ytnojkokhfmgcfaa.Den
open Go

/-- What an operation leaves: its result, the objects, the tokens. -/
structure Eff where
  v : TV
  S : List Obj
  O : Nat → Bool
  c : Nat
def Eff.on (e : Eff) (s : St) (d : Option Tmp) : St := { s with S := e.S, O := e.O, c := e.c }.put d e.v

/-- What is told of functions does not hang on who asks. -/
def TabNat (E : Table) : Prop := ∀ g sp, E.find g = some sp → ∀ as os, ∃ out : Option (TV × List Obj), ∀ (ρ : Type) (K : TV → List Obj → Option ρ), sp.run as os K = out.bind fun p => K p.1 p.2

section
variable {Γ : Env} {E : Table} {dr : Bool} {o : Oper}

abbrev AgX (o : Oper) (s s2 : St) : Prop := ∀ x ∈ o.op.operands, ∀ t, s2.ev t x = s.ev t x

def s1 : St := ⟨1, fun _ => .undef, 0, fun _ => false, [], 0⟩

theorem binK_nat (tx : Option Ty) (ip : Bool) (op : BinOp) (x y : TV) (s : St) (d : Option Tmp) {ρ : Type} (K : St → Option ρ) :
    binK tx ip s d op x y K = (binK tx ip s1 (some 0) op x y fun s => some (s.T 0)).bind fun v => K (s.put d v) := by
  unfold binK
  split
  · split
    · rw [Option.bind_assoc]; rfl
    · rw [Option.bind_assoc]; rfl
    · split
      · rw [Option.bind_assoc]; rfl
      · rfl
    · split
      · rw [Option.bind_assoc]; rfl
      · rfl
    · split
      · cases arith _ _ _ _ <;> rfl
      · rfl
  · split
    · unfold lim
      split
      · rfl
      · rfl
    · cases strOp _ _ _ <;> rfl
  · split
    · split <;> rfl
    · rfl
  · split
    · split
      · split <;> rfl
      · rfl
    · rfl
  · split
    · split <;> rfl
    · rfl
  · cases ip
    · rfl
    · simp only [cond_true]
      split <;> rfl
  · cases ip
    · rfl
    · simp only [cond_true]
      split <;> rfl
  · rfl

theorem sliceK_nat (tn : Option Ty) (x : TV) (lo hi mx : Option TV) (s : St) (d : Option Tmp) {ρ : Type} (K : St → Option ρ) :
    sliceK tn s d x lo hi mx K = (sliceK tn s1 (some 0) x lo hi mx fun s => some (s.T 0)).bind fun v => K (s.put d v) := by
  unfold sliceK
  split
  · split
    · split
      · rw [Option.bind_assoc]; rfl
      · rw [Option.bind_assoc]; rfl
      · unfold must
        cases beqI _ _
        · rfl
        · simp only [cond_true]; rw [Option.bind_assoc]; rfl
      · rfl
    · rfl
  · split
    · split
      · rw [Option.bind_assoc]; rfl
      · rw [Option.bind_assoc]; rfl
      · rfl
    · rfl
  · rfl

theorem setD_congr {s s2 : St} {x : Operand} (h : ∀ t, s2.ev t x = s.ev t x) : ∀ (b : Ty) (i : Nat) (d : b.D), setD s2 b i x d = setD s b i x d
  | .pair a _, 0, d => by simp only [setD, h]
  | .pair a b, i + 1, d => by simp only [setD, setD_congr h b i d.2]
  | .unit, _, _ => by simp only [setD]
  | .bool, _, _ => by simp only [setD]
  | .int _, _, _ => by simp only [setD]
  | .str, _, _ => by simp only [setD]
  | .sl _, _, _ => by simp only [setD]
  | .st _, _, _ => by simp only [setD]
theorem buildD_congr {s s2 : St} (b : Ty) : ∀ (ps : List (Nat × Operand)) (d : b.D), (∀ p ∈ ps, ∀ t, s2.ev t p.2 = s.ev t p.2) → buildD s2 b ps d = buildD s b ps d
  | [], _, _ => rfl
  | (i, x) :: ps, d, h => by
    simp only [buildD]
    rw [setD_congr (h (i, x) (List.mem_cons_self ..))]
    congr 1
    funext d
    exact buildD_congr b ps d fun p hp => h p (List.mem_cons_of_mem _ hp)
theorem elemsD_congr {s s2 : St} (t : Ty) : ∀ (ps : List (Nat × Operand)) (l : List t.D), (∀ p ∈ ps, ∀ t, s2.ev t p.2 = s.ev t p.2) → elemsD s2 t ps l = elemsD s t ps l
  | [], _, _ => rfl
  | (i, x) :: ps, l, h => by
    simp only [elemsD]
    rw [h (i, x) (List.mem_cons_self ..)]
    congr 2
    funext y
    exact elemsD_congr t ps _ fun p hp => h p (List.mem_cons_of_mem _ hp)

theorem evs_congr {s s2 : St} (ty : Nat → Option Ty) : ∀ (l : List Operand) (k : List TypeId), (∀ x ∈ l, ∀ t, s2.ev t x = s.ev t x) → s2.evs ty l k = s.evs ty l k
  | [], _, _ => rfl
  | x :: l, [], h => by simp only [St.evs, h x (List.mem_cons_self ..), evs_congr ty l [] fun y hy => h y (List.mem_cons_of_mem _ hy)]
  | x :: l, n :: k, h => by simp only [St.evs, h x (List.mem_cons_self ..), evs_congr ty l k fun y hy => h y (List.mem_cons_of_mem _ hy)]

theorem callS_true (hE : TabNat E) {g : Nat} {sp : Spec} (hg : E.find g = some sp) (as : List TV) (d : Option Tmp) : ∃ ov : Option TV, ∀ (s : St) (ρ : Type) (K : St → Option ρ),
    callS true s d sp as [] K = ov.bind fun v => K (s.put d v) := by
  have hp : ∀ s : St, pickS (posOf []) s.S [] = some [] := fun _ => rfl
  cases h1 : ren.go (posOf []) as with
  | none => exact ⟨none, fun s ρ K => by simp only [callS, h1]; rfl⟩
  | some as1 =>
    cases h2 : nkL (sO true s1) 0 sp.qs.length sp.pars as1 with
    | none =>
      refine ⟨none, fun s ρ K => ?_⟩
      simp only [callS, h1, hp, List.length_nil]
      rw [show nkL (sO true s) 0 sp.qs.length sp.pars as1 = none from h2]
      rfl
    | some p =>
      obtain ⟨as2, a⟩ := p
      cases h3 : nkLL (sO true s1) 0 sp.qs.length sp.objs [] with
      | none =>
        refine ⟨none, fun s ρ K => ?_⟩
        simp only [callS, h1, hp, List.length_nil]
        rw [show nkL (sO true s) 0 sp.qs.length sp.pars as1 = some (as2, a) from h2, show nkLL (sO true s) 0 sp.qs.length sp.objs [] = none from h3]
        rfl
      | some q =>
        obtain ⟨os2, b⟩ := q
        obtain ⟨out, ho⟩ := hE g sp hg as2 os2
        have key : ∀ (s : St) (ρ : Type) (K : St → Option ρ), callS true s d sp as [] K =
            bif apart [] && apart (a ++ b) && apart sp.qs && Nat.beq os2.length 0 then
              match a ++ b, ([] : List Nat) with
              | [], [] => sp.run as2 os2 fun v S => match S with
                | [] => K (s.put d (tidy (fun _ => false) v))
                | _ => none
              | _, _ => none
            else none := by
          intro s ρ K
          simp only [callS, h1, hp, List.length_nil]
          rw [show nkL (sO true s) 0 sp.qs.length sp.pars as1 = some (as2, a) from h2, show nkLL (sO true s) 0 sp.qs.length sp.objs [] = some (os2, b) from h3]
          rfl
        cases hb : (apart [] && apart (a ++ b) && apart sp.qs && Nat.beq os2.length 0) with
        | false => exact ⟨none, fun s ρ K => by rw [key, hb]; rfl⟩
        | true =>
          cases hab : a ++ b with
          | cons x l => exact ⟨none, fun s ρ K => by rw [key, hb, hab]; rfl⟩
          | nil =>
            refine ⟨out.bind fun p => match p.2 with
              | [] => some (tidy (fun _ => false) p.1)
              | _ => none, fun s ρ K => ?_⟩
            rw [key, hb, hab]
            simp only [cond_true]
            rw [ho]
            cases out with
            | none => rfl
            | some p =>
              obtain ⟨v, S⟩ := p
              cases S <;> rfl

theorem callS_false (hE : TabNat E) {g : Nat} {sp : Spec} (hg : E.find g = some sp) (as : List TV) (js : List Nat) (s : St) : ∃ oe : Option Eff, ∀ (s2 : St), s2.S = s.S → s2.O = s.O → s2.c = s.c →
    ∀ (d : Option Tmp) (ρ : Type) (K : St → Option ρ), callS false s2 d sp as js K = oe.bind fun e => K (e.on s2 d) := by
  have hms : ∀ (s2 : St), s2.O = s.O → ∀ f, maySay s2 f = maySay s f := by
    intro s2 h f; cases f <;> simp [maySay, h]
  have hnk : ∀ (s2 : St), s2.O = s.O → ∀ m c k v, nkTV s2 m c k v = nkTV s m c k v := by
    intro s2 h m c k v; unfold nkTV; simp only [hms s2 h]
  have hnl : ∀ (s2 : St), s2.O = s.O → ∀ m c ks vs, nkL s2 m c ks vs = nkL s m c ks vs := by
    intro s2 h m c ks
    induction ks with
    | nil => intro vs; cases vs <;> rfl
    | cons k ks ih => intro vs; cases vs with
      | nil => rfl
      | cons v vs => simp only [nkL, hnk s2 h, ih]
  have hnll : ∀ (s2 : St), s2.O = s.O → ∀ m c ks vs, nkLL s2 m c ks vs = nkLL s m c ks vs := by
    intro s2 h m c ks
    induction ks with
    | nil => intro vs; rfl
    | cons k ks ih => intro vs; cases vs with
      | nil => rfl
      | cons v vs => simp only [nkLL, hnl s2 h, ih]
  cases h1 : ren.go (posOf js) as with
  | none => exact ⟨none, fun s2 _ _ _ d ρ K => by simp only [callS, h1]; rfl⟩
  | some as1 =>
    cases h0 : pickS (posOf js) s.S js with
    | none => exact ⟨none, fun s2 hS _ _ d ρ K => by simp only [callS, h1, hS, h0]; rfl⟩
    | some os1 =>
      cases h2 : nkL s js.length sp.qs.length sp.pars as1 with
      | none => exact ⟨none, fun s2 hS hO _ d ρ K => by simp only [callS, h1, hS, h0, sO, hnl s2 hO, h2]; rfl⟩
      | some p =>
        obtain ⟨as2, a⟩ := p
        cases h3 : nkLL s js.length sp.qs.length sp.objs os1 with
        | none => exact ⟨none, fun s2 hS hO _ d ρ K => by simp only [callS, h1, hS, h0, sO, hnl s2 hO, hnll s2 hO, h2, h3]; rfl⟩
        | some q =>
          obtain ⟨os2, b⟩ := q
          obtain ⟨out, ho⟩ := hE g sp hg as2 os2
          cases hb : (apart js && apart (a ++ b) && apart sp.qs && Nat.beq os2.length js.length) with
          | false => exact ⟨none, fun s2 hS hO _ d ρ K => by simp only [callS, h1, hS, h0, sO, hnl s2 hO, hnll s2 hO, h2, h3, hb]; rfl⟩
          | true =>
            refine ⟨out.map fun p => ⟨back (fun i => bif Nat.blt i js.length then js.getD i 0 else s.S.length + (i - js.length)) s.c p.1,
              layS s.S js (p.2.map (back.go (fun i => bif Nat.blt i js.length then js.getD i 0 else s.S.length + (i - js.length)) s.c)),
              fun q => (s.O q && !(a ++ b).any (Nat.beq q)) || (Nat.ble s.c q && Nat.blt q (s.c + sp.toks)), s.c + sp.toks⟩, fun s2 hS hO hc d ρ K => ?_⟩
            simp only [callS, h1, hS, h0, sO, hnl s2 hO, hnll s2 hO, h2, h3, hb, cond_true]
            rw [ho, hO, hc]
            cases out <;> rfl

end
end Go.Proofs.Ytnojkokhfmgcfaa.Den
