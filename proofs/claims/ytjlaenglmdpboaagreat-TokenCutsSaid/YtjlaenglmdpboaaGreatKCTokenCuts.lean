/- Proved here: parts of the way to CTokenCuts (CTokenCuts); no condition beyond those that each theorem names. -/
import Derived.Test.YtjlaenglmdpboaaGreatK4
import Derived.Test.YtjlaenglmdpboaaGreatK16
set_option linter.unusedSimpArgs false
set_option linter.unusedVariables false
namespace Go.Proofs.YtjlaenglmdpboaaGreat.tokenCuts
open Go Go.Im Go.ChangeShapes Go.WideShapes Go.ChangeAt Go.RowKit Line
theorem calls (l:List Int) (W:World) {a:Option Addr} {k c:Nat} (A:Arg W a k c (rv l)) (hl:l.length=k) :
  Calls Tryz.prog 3 #[.slice a k c] W fun e W'=>e= .returned (.bool true)∧Below W.heap.size W W':=by
 obtain ⟨v1,a',c',Q1,m1,x1,r1,s1,hc⟩:=(LaidOK.nil W).line A (rv_atomic l)
 subst hl
 exact calls_laid (K:=Hd.K) Hd.Kok Q1 (args:= #[.slice a' l.length c']) (RL.cons r1 (RL.nil _)) rfl (V12.cuts_run l _ s1 hc)
set_option maxRecDepth 100000 in
theorem lifted (os:Os) (started:os.Started) (H:Type) (enc:TypeId × Value→H) :
  ReturnsInHanded {} Tryz.checked os 3 .any (Rows.tokenCutsSpec.pre6 enc Tryz.prog Tryz.f3 Rows.tokenCutsRow.domain false) (Rows.tokenCutsSpec.post enc Tryz.prog Tryz.f3 false true false false):=by
 refine returnsInHanded_of_change_sized (C:=Tryz.checked) own started (by kernel_rfl) Tryz.func3
  (ChangeSpec.witness6 (enc:=enc) (C:=Tryz.checked) false ⟨#[], #[.slice none 0 0],[]⟩ 8 (by kernel_rfl) (by kernel_rfl) (by kernel_rfl) (by kernel_rfl)) ?_
 intro W base args ds gs before hval0 hW hcnd hsz0 _
 have hval:∀ (j:Nat) t v,Tryz.f3.params[j]? =some t→args[j]? =some v→Value.okWide Tryz.prog W .any base t v:=hval0
 have hW':=hW
 obtain ⟨p,q,hA0,hV,rfl,hfz,hnd⟩:=hW
 have hA:DataW.TrodAll enc Tryz.prog W 0 (fun _=>true) true Tryz.f3.params.toList args.toList ds p:=hA0
 rw [Tryz.params3] at hA hval
 obtain ⟨v0,d0,rfl,rfl,h0⟩:=trodAll_one hA
 obtain ⟨rfl,rfl⟩:=trodVars_none hV
 clear hA0 hval0 hsz0
 simp only [List.append_nil] at hW'
 have harg0:∀ W',Below W.heap.size W W'→DataW.Trod enc Tryz.prog W' 0 (fun b=>decide (b < W.heap.size)) true 22 v0 d0 p:=fun W' hb =>
  Below.trod laidOut (by kernel_rfl) (of_decide_eq_true (by kernel_rfl)) h0 hb (fun x hx=>by simpa using hW'.lt x hx)
 obtain ⟨a,k,c,rfl⟩:=okWide_slice Tryz.underlying22 (hval 0 22 v0 rfl rfl)
 obtain ⟨l,A,hl,hk,_⟩:=opened h0
 refine (calls l W A hl).mono fun e W' ⟨he,bel⟩=> ?_
 subst he
 exact ⟨_,rfl,_,_,_,[],_,[],hW',trodAll_mk1 (shut_bool Tryz.underlying4 _),trodAll_mk1 (harg0 W' bel),rfl,bel.frame _,fun h=>by cases h⟩
theorem over:Rows.tokenCutsRow.holds Tryz.pinned (OpenSpec.ofChange Rows.tokenCutsSpec) :=
 OpenClaim.holds_of_wide 3 Tryz.f3 rfl rfl rfl rfl rfl rfl rfl ⟨rfl,rfl,rfl,rfl,rfl⟩ rfl rfl rfl rfl rfl (by kernel_rfl) Tryz.func3 (by kernel_rfl)
  (of_decide_eq_true (by kernel_rfl)) (by unfold Func.isWrapper;first | (rw [if_pos (by decide +kernel)];kernel_rfl) | (rw [if_neg (by decide +kernel)];exact ⟨rfl,rfl⟩))
  (fun os started H enc _=>lifted os started H enc)
theorem proved:Rows.TokenCutsSaid:=over
#print axioms proved
end Go.Proofs.YtjlaenglmdpboaaGreat.tokenCuts
namespace Go.Proofs.YtjlaenglmdpboaaGreat
theorem tokenCuts_holds:Rows.TokenCutsSaid:=tokenCuts.proved
end Go.Proofs.YtjlaenglmdpboaaGreat
