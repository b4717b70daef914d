import Derived.Test.YtgmeimbamfggkaaDen30
import Derived.Laws.BitsLemmas
import Derived.Laws.BitsAllLaws
import Derived.OpenShut
namespace Go.Proofs.Ytgmeimbamfggkaa.Den
open Go Go.RowKit
theorem aEa (n:Int):IntKind.i64.wrap n=wrap64 n:=by
 simp only [IntKind.wrap,IntKind.bits,IntKind.signed,wrap64]
 simp
 split <;> omega
theorem aGh {a:Int} (h:(Lit.int .u64 a).wf=true):0≤a∧a≤18446744073709551615:=by
 simpa [Lit.wf,IntKind.min,IntKind.max,IntKind.signed,IntKind.bits] using h
theorem wu64 (n:Int):IntKind.u64.wrap n=n % 18446744073709551616:=by
 simp [IntKind.wrap,IntKind.bits,IntKind.signed]
theorem anL {n:Int} (h : -9223372036854775808≤n∧n≤9223372036854775807):wr .i64 n=n:=by
 unfold wr; rw [aEa]; unfold wrap64; omega
theorem azi {n:Int} (h:0≤n∧n < 18446744073709551616):wr .u64 n=n:=by
 unfold wr; rw [wu64]; omega
theorem aFa {α:Type} (l:List α) (j:Nat):nth l (j:Int)=l[j]?:=by
 unfold nth; rw [if_pos (by omega)]; simp
theorem ab0 {α:Type} {l:List α} {j:Nat} {x:α} (h:l[j]?=some x):nth l (j:Int)=some x:=by rw [aFa,h]
theorem aFB {α:Type} {l:List α} {a b:Nat} (h1:a≤b) (h2:b≤l.length):cut l (a:Int) (b:Int)=some ((l.take b).drop a):=by
 unfold cut; rw [if_pos (by omega)]; simp
end Go.Proofs.Ytgmeimbamfggkaa.Den
