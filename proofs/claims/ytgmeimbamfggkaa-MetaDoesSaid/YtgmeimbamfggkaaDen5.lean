import Derived.Test.YtgmeimbamfggkaaDen4
import Derived.Laws.Slices
import Derived.Laws.StructEq
import Derived.Laws.BytesString
import Derived.Lib.ConvBytes
import Derived.Lib.Strings
import Derived.Laws.Closers25b
namespace Go.Proofs.Ytgmeimbamfggkaa.Den
open Go
theorem al0 {k:IntKind} {n:Int}:inK k n=true↔k.min≤n∧n≤k.max:=by simp [inK]
theorem ayx (k:IntKind) (n:Int):inK k (wr k n)=true:=al0.2 (wrap_within k n)
theorem avb (op:BinOp) (k:IntKind) (a b:Int):inK k (Go.bits op k a b)=true:=al0.2 (bits_within op k a b)
theorem ayy (k:IntKind):k.min≤0∧0≤k.max:=by cases k <;> decide
theorem aHu {k:IntKind} {x:Int} (y:Int) (h:inK k x=true):inK k (x.tmod y)=true:=by
 rw [al0] at h ⊢
 have hz:=ayy k
 rcases Int.le_total 0 x with hx | hx
 · have h1:=Int.tmod_nonneg y hx
   have h2:(x.tmod y).natAbs≤x.natAbs:=by rw [Int.natAbs_tmod]; exact Nat.mod_le _ _
   omega
 · have h1:x.tmod y≤0:=by
    have:=Int.tmod_nonneg y (a := -x) (by omega)
    rw [Int.neg_tmod] at this
    omega
   have h2:(x.tmod y).natAbs≤x.natAbs:=by rw [Int.natAbs_tmod]; exact Nat.mod_le _ _
   omega
theorem aIZ {k:IntKind} {x:Int} (n:Nat) (h:inK k x=true):inK k (x / 2 ^ n)=true:=by
 rw [al0] at h ⊢
 have hz:=ayy k
 have hp:(0:Int) < 2 ^ n:=Int.pow_pos (by decide)
 rcases Int.le_total 0 x with hx | hx
 · have h1:=Int.ediv_nonneg hx (Int.le_of_lt hp)
   have h2:=Int.ediv_le_self (2 ^ n) hx
   omega
 · have h1:x≤x / 2 ^ n:=by
    have h3:x * 2 ^ n≤x * 1:=Int.mul_le_mul_of_nonpos_left hx (by omega)
    rw [Int.mul_one] at h3
    exact Int.le_ediv_of_mul_le hp h3
   have h2:x / 2 ^ n≤0:=by
    have:=Int.ediv_le_ediv hp hx
    simpa using this
   omega
theorem axj {a b:ByteArray}:aaz a=aaz b↔a.data.toList=b.data.toList:=by
 unfold aaz
 exact List.map_inj_right (fun x y h=>UInt8.toNat.inj (by omega))
theorem acj (s:ByteArray):(aaz s).length=s.size:=by
 unfold aaz
 rw [List.length_map,Array.length_toList]; rfl
theorem aww (a b:ByteArray):beqL (aaz a) (aaz b)=(a.toList == b.toList):=by
 rw [Lib.toList_data,Lib.toList_data,Bool.eq_iff_iff]
 simp [beqL,axj]
theorem aCv : ∀ (a b:List UInt8),ltL (a.map fun b=>(b.toNat:Int)) (b.map fun b=>(b.toNat:Int))=Op.bytesLess a b
 | [],[]=>rfl
 | _ :: _,[]=>rfl
 | [],_ :: _=>rfl
 | x :: a,y :: b=>by
   simp only [List.map_cons,ltL,Op.bytesLess,aCv a b]
   congr 1
   · rw [Bool.eq_iff_iff]; simp [UInt8.lt_iff_toNat_lt]
   · congr 1
     rw [Bool.eq_iff_iff]
     simp
     constructor
     · intro h; exact UInt8.toNat.inj (by omega)
     · rintro rfl; rfl
theorem aqc (a b:ByteArray):ltL (aaz a) (aaz b)=Op.bytesLess a.toList b.toList:=by
 rw [Lib.toList_data,Lib.toList_data]; exact aCv _ _
theorem ang : ∀ (a b:List UInt8),(Op.bytesLess a b||(a == b))=!Op.bytesLess b a
 | [],[]=>rfl
 | _ :: _,[]=>rfl
 | [],_ :: _=>rfl
 | x :: a,y :: b=>by
   have ih:=ang a b
   simp only [Op.bytesLess]
   by_cases h1:x < y
   · have h2:¬ y < x:=by simp only [UInt8.lt_iff_toNat_lt] at *; omega
     have h3:y≠x:=by rintro rfl; simp only [UInt8.lt_iff_toNat_lt] at h1; omega
     simp [h1,h2,h3]
   · by_cases h2:y < x
     · have h3:x≠y:=by rintro rfl; simp only [UInt8.lt_iff_toNat_lt] at h2; omega
       simp [h1,h2,h3]
     · have h3:x=y:=UInt8.toNat.inj (by simp only [UInt8.lt_iff_toNat_lt] at *; omega)
       subst h3
       simpa [h1] using ih
section
variable {P : Program} {w:World} {M:Mem} {ι:Nat→Nat}
theorem aFG (op:BinOp) (t:TypeId) (k:IntKind) (a b:Int) (x:TV) (h:aFB op k a b=some x) :
 ∃ v,(binOp op t (.int k a) (.int k b)).run P w=.ok v w∧rv M ι x v:=by
 cases op <;> simp only [aFB,Option.some.injEq,reduceCtorEq] at h <;> subst h
 case add=>exact ⟨_,by rw [binOp_add]; rfl,rfl,ayx _ _⟩
 case sub=>exact ⟨_,by rw [binOp_sub]; rfl,rfl,ayx _ _⟩
 case mul=>exact ⟨_,by rw [binOp_mul]; rfl,rfl,ayx _ _⟩
 case and=>exact ⟨_,by rw [binOp_and]; rfl,rfl,avb _ _ _ _⟩
 case or=>exact ⟨_,by rw [binOp_or]; rfl,rfl,avb _ _ _ _⟩
 case xor=>exact ⟨_,by rw [binOp_xor]; rfl,rfl,avb _ _ _ _⟩
 case andNot=>exact ⟨_,by rw [binOp_andNot]; rfl,rfl,avb _ _ _ _⟩
 case eql=>exact ⟨_,by rw [binOp_eql]; rfl,by simp only [rv,beqI]; congr 1⟩
 case neq=>exact ⟨_,by rw [binOp_neq]; rfl,by simp only [rv,beqI]; congr 1⟩
 case lss=>exact ⟨_,by rw [binOp_lss]; rfl,rfl⟩
 case leq=>exact ⟨_,by rw [binOp_leq]; rfl,rfl⟩
 case gtr=>exact ⟨_,by rw [binOp_gtr]; rfl,rfl⟩
 case geq=>exact ⟨_,by rw [binOp_geq]; rfl,rfl⟩
theorem aEY (t:TypeId) (k:IntKind) (a b r:Int) (h:quoK k a b=some r) :
 (binOp .quo t (.int k a) (.int k b)).run P w=.ok (.int k r) w∧inK k r=true:=by
 unfold quoK at h
 split at h
 · cases h
 · rename_i hb
   cases h
   exact ⟨by rw [binOp_quo,Op.intDiv,if_neg hb]; rfl,ayx _ _⟩
theorem aEZ (t:TypeId) (k:IntKind) (a b r:Int) (ha:inK k a=true) (h:remK k a b=some r) :
 (binOp .rem t (.int k a) (.int k b)).run P w=.ok (.int k r) w∧inK k r=true:=by
 unfold remK at h
 split at h
 · cases h
 · rename_i hb
   cases h
   exact ⟨by rw [binOp_rem,Op.intDiv,if_neg hb]; rfl,aHu _ ha⟩
theorem aE0 (t:TypeId) (k yk:IntKind) (a b r:Int) (h:shlK k a b=some r) :
 (binOp .shl t (.int k a) (.int yk b)).run P w=.ok (.int k r) w∧inK k r=true:=by
 unfold shlK at h
 split at h
 · cases h
 · rename_i hb
   cases h
   exact ⟨by rw [binOp_shl,Op.shift,if_neg hb]; rfl,ayx _ _⟩
theorem aE1 (t:TypeId) (k yk:IntKind) (a b r:Int) (ha:inK k a=true) (h:shrK k a b=some r) :
 (binOp .shr t (.int k a) (.int yk b)).run P w=.ok (.int k r) w∧inK k r=true:=by
 unfold shrK at h
 split at h
 · cases h
 · rename_i hb
   cases h
   refine ⟨?_,aIZ _ ha⟩
   rw [binOp_shr,Op.shift,if_neg hb]
   have hp:(0:Int)≤2 ^ min b.toNat k.bits:=Int.pow_nonneg (by decide)
   show Result.ok (Value.int k (a.fdiv (2 ^ min b.toNat k.bits))) w=_
   rw [Int.fdiv_eq_ediv_of_nonneg _ hp]
theorem aFH (op:BinOp) (t:TypeId) (a b:ByteArray) (x:TV) (h:aG8 op (aaz a) (aaz b)=some x) :
 ∃ v,(binOp op t (.string a) (.string b)).run P w=.ok v w∧rv M ι x v:=by
 cases op <;> simp only [aG8,Option.some.injEq,reduceCtorEq] at h <;> subst h
 case eql=>exact ⟨.bool (a.toList == b.toList),rfl,by simp only [rv,aww]⟩
 case neq=>exact ⟨.bool (!(a.toList == b.toList)),rfl,by simp only [rv,aww]⟩
 case lss=>exact ⟨.bool (Op.bytesLess a.toList b.toList),rfl,by simp only [rv,aqc]⟩
 case leq=>exact ⟨.bool (Op.bytesLess a.toList b.toList||(a.toList == b.toList)),rfl,by simp only [rv,aqc,ang]⟩
 case gtr=>exact ⟨.bool (!(Op.bytesLess a.toList b.toList||(a.toList == b.toList))),rfl,by simp only [rv,aqc,ang,Bool.not_not]⟩
 case geq=>exact ⟨.bool (!Op.bytesLess a.toList b.toList),rfl,by simp only [rv,aqc]⟩
end
end Go.Proofs.Ytgmeimbamfggkaa.Den
