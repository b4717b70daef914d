import Derived.Test.YtgmeimbamfggkaaDen30
import Derived.Laws.BitsLemmas
import Derived.Laws.BitsAllLaws
import Derived.OpenShut
namespace Go.Proofs.Ytgmeimbamfggkaa.Den
open Go Go.RowKit
theorem aIc (n:Int):IntKind.i64.wrap n=wrap64 n:=by
 simp only [IntKind.wrap,IntKind.bits,IntKind.signed,wrap64]
 simp
 split <;> omega
theorem aKp {a:Int} (h:(Lit.int .u64 a).wf=true):0≤a∧a≤18446744073709551615:=by
 simpa [Lit.wf,IntKind.min,IntKind.max,IntKind.signed,IntKind.bits] using h
theorem wu64 (n:Int):IntKind.u64.wrap n=n % 18446744073709551616:=by
 simp [IntKind.wrap,IntKind.bits,IntKind.signed]
theorem aiY {n:Int} (h : -9223372036854775808≤n∧n≤9223372036854775807):wr .i64 n=n:=by
 unfold wr; rw [aIc]; unfold wrap64; omega
theorem atP {n:Int} (h:0≤n∧n < 18446744073709551616):wr .u64 n=n:=by
 unfold wr; rw [wu64]; omega
theorem aJe {α:Type} (l:List α) (j:Nat):nth l (j:Int)=l[j]?:=by
 unfold nth; rw [if_pos (by omega)]; simp
theorem aaV {α:Type} {l:List α} {j:Nat} {x:α} (h:l[j]?=some x):nth l (j:Int)=some x:=by rw [aJe,h]
theorem aIj {α:Type} {l:List α} {a b:Nat} (h1:a≤b) (h2:b≤l.length):cut l (a:Int) (b:Int)=some ((l.take b).drop a):=by
 unfold cut; rw [if_pos (by omega)]; simp
theorem ajI {α:Type} {b:Bool} {x y:α} (h:b=true):(bif b then x else y)=x:=by subst h; rfl
theorem agq {α:Type} {b:Bool} {x y:α} (h:b=false):(bif b then x else y)=y:=by subst h; rfl
end Go.Proofs.Ytgmeimbamfggkaa.Den
