import Derived.Test.YtgmeimbamfggkaaDen4
import Derived.Laws.Slices
import Derived.Laws.StructEq
import Derived.Laws.BytesString
import Derived.Lib.ConvBytes
import Derived.Lib.Strings
import Derived.Laws.Closers25b
namespace Go.Proofs.Ytgmeimbamfggkaa.Den
open Go
theorem ak6 {k:IntKind} {n:Int}:inK k n=true↔k.min≤n∧n≤k.max:=by simp [inK]
theorem avx (k:IntKind) (n:Int):inK k (wr k n)=true:=ak6.2 (wrap_within k n)
theorem asz (op:BinOp) (k:IntKind) (a b:Int):inK k (Go.bits op k a b)=true:=ak6.2 (bits_within op k a b)
theorem avy (k:IntKind):k.min≤0∧0≤k.max:=by cases k <;> decide
theorem aDD {k:IntKind} {x:Int} (y:Int) (h:inK k x=true):inK k (x.tmod y)=true:=by
 rw [ak6] at h ⊢
 have hz:=avy k
 rcases Int.le_total 0 x with hx | hx
 · have h1:=Int.tmod_nonneg y hx
   have h2:(x.tmod y).natAbs≤x.natAbs:=by rw [Int.natAbs_tmod]; exact Nat.mod_le _ _
   omega
 · have h1:x.tmod y≤0:=by
    have:=Int.tmod_nonneg y (a := -x) (by omega)
    rw [Int.neg_tmod] at this
    omega
   have h2:(x.tmod y).natAbs≤x.natAbs:=by rw [Int.natAbs_tmod]; exact Nat.mod_le _ _
   omega
theorem aEW {k:IntKind} {x:Int} (n:Nat) (h:inK k x=true):inK k (x / 2 ^ n)=true:=by
 rw [ak6] at h ⊢
 have hz:=avy k
 have hp:(0:Int) < 2 ^ n:=Int.pow_pos (by decide)
 rcases Int.le_total 0 x with hx | hx
 · have h1:=Int.ediv_nonneg hx (Int.le_of_lt hp)
   have h2:=Int.ediv_le_self (2 ^ n) hx
   omega
 · have h1:x≤x / 2 ^ n:=by
    have h3:x * 2 ^ n≤x * 1:=Int.mul_le_mul_of_nonpos_left hx (by omega)
    rw [Int.mul_one] at h3
    exact Int.le_ediv_of_mul_le hp h3
   have h2:x / 2 ^ n≤0:=by
    have:=Int.ediv_le_ediv hp hx
    simpa using this
   omega
theorem auo {a b:ByteArray}:aaF a=aaF b↔a.data.toList=b.data.toList:=by
 unfold aaF
 exact List.map_inj_right (fun x y h=>UInt8.toNat.inj (by omega))
theorem acv (s:ByteArray):(aaF s).length=s.size:=by
 unfold aaF
 rw [List.length_map,Array.length_toList]; rfl
theorem atH (a b:ByteArray):beqL (aaF a) (aaF b)=(a.toList == b.toList):=by
 rw [Lib.toList_data,Lib.toList_data,Bool.eq_iff_iff]
 simp [beqL,auo]
theorem ayQ : ∀ (a b:List UInt8),ltL (a.map fun b=>(b.toNat:Int)) (b.map fun b=>(b.toNat:Int))=Op.bytesLess a b
 | [],[]=>rfl
 | _ :: _,[]=>rfl
 | [],_ :: _=>rfl
 | x :: a,y :: b=>by
   simp only [List.map_cons,ltL,Op.bytesLess,ayQ a b]
   congr 1
   · rw [Bool.eq_iff_iff]; simp [UInt8.lt_iff_toNat_lt]
   · congr 1
     rw [Bool.eq_iff_iff]
     simp
     constructor
     · intro h; exact UInt8.toNat.inj (by omega)
     · rintro rfl; rfl
theorem aoT (a b:ByteArray):ltL (aaF a) (aaF b)=Op.bytesLess a.toList b.toList:=by
 rw [Lib.toList_data,Lib.toList_data]; exact ayQ _ _
theorem al_ : ∀ (a b:List UInt8),(Op.bytesLess a b||(a == b))=!Op.bytesLess b a
 | [],[]=>rfl
 | _ :: _,[]=>rfl
 | [],_ :: _=>rfl
 | x :: a,y :: b=>by
   have ih:=al_ a b
   simp only [Op.bytesLess]
   by_cases h1:x < y
   · have h2:¬ y < x:=by simp only [UInt8.lt_iff_toNat_lt] at *; omega
     have h3:y≠x:=by rintro rfl; simp only [UInt8.lt_iff_toNat_lt] at h1; omega
     simp [h1,h2,h3]
   · by_cases h2:y < x
     · have h3:x≠y:=by rintro rfl; simp only [UInt8.lt_iff_toNat_lt] at h2; omega
       simp [h1,h2,h3]
     · have h3:x=y:=UInt8.toNat.inj (by simp only [UInt8.lt_iff_toNat_lt] at *; omega)
       subst h3
       simpa [h1] using ih
section
variable {P : Program} {w:World} {M:Mem} {ι:Nat→Nat}
theorem aBQ (op:BinOp) (t:TypeId) (k:IntKind) (a b:Int) (x:TV) (h:aBM op k a b=some x) :
 ∃ v,(binOp op t (.int k a) (.int k b)).run P w=.ok v w∧rv M ι x v:=by
 cases op <;> simp only [aBM,Option.some.injEq,reduceCtorEq] at h <;> subst h
 case add=>exact ⟨_,by rw [binOp_add]; rfl,rfl,avx _ _⟩
 case sub=>exact ⟨_,by rw [binOp_sub]; rfl,rfl,avx _ _⟩
 case mul=>exact ⟨_,by rw [binOp_mul]; rfl,rfl,avx _ _⟩
 case and=>exact ⟨_,by rw [binOp_and]; rfl,rfl,asz _ _ _ _⟩
 case or=>exact ⟨_,by rw [binOp_or]; rfl,rfl,asz _ _ _ _⟩
 case xor=>exact ⟨_,by rw [binOp_xor]; rfl,rfl,asz _ _ _ _⟩
 case andNot=>exact ⟨_,by rw [binOp_andNot]; rfl,rfl,asz _ _ _ _⟩
 case eql=>exact ⟨_,by rw [binOp_eql]; rfl,by simp only [rv,beqI]; congr 1⟩
 case neq=>exact ⟨_,by rw [binOp_neq]; rfl,by simp only [rv,beqI]; congr 1⟩
 case lss=>exact ⟨_,by rw [binOp_lss]; rfl,rfl⟩
 case leq=>exact ⟨_,by rw [binOp_leq]; rfl,rfl⟩
 case gtr=>exact ⟨_,by rw [binOp_gtr]; rfl,rfl⟩
 case geq=>exact ⟨_,by rw [binOp_geq]; rfl,rfl⟩
theorem aBc (t:TypeId) (k:IntKind) (a b r:Int) (h:quoK k a b=some r) :
 (binOp .quo t (.int k a) (.int k b)).run P w=.ok (.int k r) w∧inK k r=true:=by
 unfold quoK at h
 split at h
 · cases h
 · rename_i hb
   cases h
   exact ⟨by rw [binOp_quo,Op.intDiv,if_neg hb]; rfl,avx _ _⟩
theorem aBd (t:TypeId) (k:IntKind) (a b r:Int) (ha:inK k a=true) (h:remK k a b=some r) :
 (binOp .rem t (.int k a) (.int k b)).run P w=.ok (.int k r) w∧inK k r=true:=by
 unfold remK at h
 split at h
 · cases h
 · rename_i hb
   cases h
   exact ⟨by rw [binOp_rem,Op.intDiv,if_neg hb]; rfl,aDD _ ha⟩
theorem aBe (t:TypeId) (k yk:IntKind) (a b r:Int) (h:shlK k a b=some r) :
 (binOp .shl t (.int k a) (.int yk b)).run P w=.ok (.int k r) w∧inK k r=true:=by
 unfold shlK at h
 split at h
 · cases h
 · rename_i hb
   cases h
   exact ⟨by rw [binOp_shl,Op.shift,if_neg hb]; rfl,avx _ _⟩
theorem aBf (t:TypeId) (k yk:IntKind) (a b r:Int) (ha:inK k a=true) (h:shrK k a b=some r) :
 (binOp .shr t (.int k a) (.int yk b)).run P w=.ok (.int k r) w∧inK k r=true:=by
 unfold shrK at h
 split at h
 · cases h
 · rename_i hb
   cases h
   refine ⟨?_,aEW _ ha⟩
   rw [binOp_shr,Op.shift,if_neg hb]
   have hp:(0:Int)≤2 ^ min b.toNat k.bits:=Int.pow_nonneg (by decide)
   show Result.ok (Value.int k (a.fdiv (2 ^ min b.toNat k.bits))) w=_
   rw [Int.fdiv_eq_ediv_of_nonneg _ hp]
theorem aBR (op:BinOp) (t:TypeId) (a b:ByteArray) (x:TV) (h:aDf op (aaF a) (aaF b)=some x) :
 ∃ v,(binOp op t (.string a) (.string b)).run P w=.ok v w∧rv M ι x v:=by
 cases op <;> simp only [aDf,Option.some.injEq,reduceCtorEq] at h <;> subst h
 case eql=>exact ⟨.bool (a.toList == b.toList),rfl,by simp only [rv,atH]⟩
 case neq=>exact ⟨.bool (!(a.toList == b.toList)),rfl,by simp only [rv,atH]⟩
 case lss=>exact ⟨.bool (Op.bytesLess a.toList b.toList),rfl,by simp only [rv,aoT]⟩
 case leq=>exact ⟨.bool (Op.bytesLess a.toList b.toList||(a.toList == b.toList)),rfl,by simp only [rv,aoT,al_]⟩
 case gtr=>exact ⟨.bool (!(Op.bytesLess a.toList b.toList||(a.toList == b.toList))),rfl,by simp only [rv,aoT,al_,Bool.not_not]⟩
 case geq=>exact ⟨.bool (!Op.bytesLess a.toList b.toList),rfl,by simp only [rv,aoT]⟩
end
end Go.Proofs.Ytgmeimbamfggkaa.Den
