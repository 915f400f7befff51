/- Proved here: parts of the way to BDefnChars (BDefnChars); no condition beyond those that each theorem names. -/
import Derived.Test.YtachkofbmodnnaaGreatDoorTie
import Derived.Test.YtachkofbmodnnaaGreatDoorCards
import Derived.Test.YtachkofbmodnnaaGreatDoorU21
import Derived.Test.YtachkofbmodnnaaGreatDoorU24
import Derived.SliceStrings
import Derived.Lib.LaidIn
import Derived.Lib.LaidU8T
import Derived.Deep.DeepHandedRow
import Derived.Deep.DeepWitnessRowRef
set_option linter.unusedSimpArgs false
set_option linter.unusedVariables false
namespace Go.Proofs.YtachkofbmodnnaaGreatDoor.defnChars
open Go Go.Im Go.ChangeShapes Go.WideShapes Go.ChangeAt Go.RowKit Go.Shelf Go.Lib L3 L4 Go.Im.Lexing Go.Im.Arrays Go.Joins
theorem sv_atomic (ls:List ByteArray):(sv ls).all Im.atomic=true:=by simp [sv,Im.atomic]
theorem rows_of {H:Type} {enc:TypeId × Value→H} {W:World} {a:Option Addr} {k c:Nat} {d:DataW H} {p:List MemPlace} (h:DataW.Trod enc Tryz.prog W 0 (fun _=>true) true 22 (.slice a k c) d p) :
  ∃ ls:List ByteArray,Arg W a k c (sv ls)∧ls.length=k:=by
 obtain ⟨fuel,hf⟩:=h
 rcases open_strings Tryz.underlying22 Tryz.underlying9 (by kernel_rfl) hf with ⟨hcs,_⟩ | ⟨a',k',c',ss,hcs,_,hk,hm,hz,_,hcell,hwf⟩
 ·simp [Value.cells] at hcs
  obtain ⟨rfl,rfl,rfl⟩:=hcs
  exact ⟨[],⟨rfl,Nat.le_refl _,.inl ⟨rfl,rfl⟩⟩,rfl⟩
 ·simp [Value.cells] at hcs
  obtain ⟨rfl,rfl,rfl⟩:=hcs
  simp only [if_true] at hz
  refine ⟨ss.take k,?_,by simp;omega⟩
  have:=Arg.of_cells (W:=W) (a:=a') (k:=k) (c:=c) (vals:=sv ss) (by simp [sv,hz]) hk (fun i hi=>by
   rw [hcell i (by omega)]
   simp [sv,List.getD,List.getElem?_eq_getElem (show i < ss.length by omega)])
  rw [sv,← List.map_take] at this
  exact this
def Tabs (w:World):Prop:=Lib.Utf8Tabs (Tryz.laysValid_ren.g 3) (Tryz.laysValid_ren.g 4) w
theorem calls (ls:List ByteArray) (p:PlT) (W:World) (T:Tabs W) {a a1 a2 a3:Option Addr} {k c k1 c1 k2 c2 k3 c3:Nat} (A:Arg W a k c (sv ls)) (hl:ls.length=k) (B:Arg W a1 k1 c1 (iv p.shape)) (hb:p.shape.length=k1) (C:Arg W a2 k2 c2 (rv p.tx)) (hc':p.tx.length=k2)
  (D:Arg W a3 (k3*3) (c3*3) (ncs p.nums)) (hd:p.nums.length=k3) (hk3:k3≤c3) :
  Calls Tryz.prog 6 #[.slice a k c,.agg #[.slice a1 k1 c1,.bool p.ch,.slice a2 k2 c2,.slice a3 k3 c3]] W fun e W'=>e= .returned (.bool true)∧Below W.heap.size W W':=by
 obtain ⟨v1,b,d,Q1,m1,x1,r1,s1,_⟩:=(tabs_laid T).line A (sv_atomic ls)
 obtain ⟨v2,b1,d1,Q2,m2,x2,r2,s2,_⟩:=Q1.line B (iv_atomic _)
 obtain ⟨v3,b2,d2,Q3,m3,x3,r3,s3,_⟩:=Q2.line C (rv_atomic _)
 obtain ⟨v4,b3,d3,Q4,m4,x4,r4,s4,_⟩:=Q3.rows (size:=3) (by omega) hk3 D (ncs_atomic _)
 subst hl
 subst hb
 subst hc'
 subst hd
 have m34:∀ b l,vPlaces v2 b=some l→vPlaces v4 b=some l:=fun b l h=>m4 b l (m3 b l h)
 have m24:∀ b l,vPlaces v1 b=some l→vPlaces v4 b=some l:=fun b l h=>m34 b l (m2 b l h)
 have PP:PV (laid v4) (.agg #[.slice b1 p.shape.length d1,.bool p.ch,.slice b2 p.tx.length d2,.slice b3 p.nums.length d3]) p:=⟨b1,d1,b2,d2,b3,d3,rfl,s2.ext (x3.trans x4),s3.ext x4,s4⟩
 exact calls_laid (K:=Hd.K) Hd.Kok Q4 (args:= #[.slice b ls.length d,.agg #[.slice b1 p.shape.length d1,.bool p.ch,.slice b2 p.tx.length d2,.slice b3 p.nums.length d3]])
  (RL.cons (r1.mono m24) (RL.cons (RV.agg_list (RL.cons (r2.mono m34) (RL.cons (RV.atomic _ rfl) (RL.cons (r3.mono m4) (RL.cons r4 (RL.nil _)))))) (RL.nil _))) rfl
  (P8.chars_run ls p _ (s1.ext (x2.trans (x3.trans x4))) ((tabs_at _ _).ext (x1.trans (x2.trans (x3.trans x4)))) PP) (X2.tabs.mono (fun b l h=>m24 b l (m1 b l h)) (tabs_tied _ _))
noncomputable def laidWorld (os:Os):World :=
 let w0:=World.holding Tryz.prog os ⟨#[], #[],[]⟩
 let put (h:Array Obj) (g:Nat) (cs:Array Value):Array Obj:=h.modify g fun
  | .cells _ t frozen=> .cells cs t frozen
  | o=>o
 let h1:=put w0.heap 0 (Lib.firstTab.map fun z=>Value.int .u8 z).toArray
 let h2:=put h1 1 ((List.range 16).flatMap fun i=>[Value.int .u8 (Lib.accLo i),Value.int .u8 (Lib.accHi i)]).toArray
 { w0 with heap:=h2 }
theorem laid_met (os:Os) (args:Array Value):laidMet Tryz.prog Rows.defnCharsRow.laid ((laidWorld os).forCall (fun _ _=>0) ⟨#[],args,[]⟩).memory :=
 (LaidIn.of_run (l:=Rows.defnCharsRow.laid) [1,0] 8 (by kernel_rfl) (by kernel_rfl) (by kernel_rfl) (by kernel_rfl)).met
theorem reads (os:Os) {H:Type} (enc:TypeId × Value→H):∃ places,DataW.whole enc Tryz.prog ((laidWorld os).forCall (fun _ _=>0) ⟨#[], #[.slice none 0 0,.agg #[.slice none 0 0,.bool false,.slice none 0 0,.slice none 0 0]],[]⟩).memory Tryz.f6.params.toList Rows.defnCharsSpec.vars false #[Value.slice none 0 0,Value.agg #[.slice none 0 0,.bool false,.slice none 0 0,.slice none 0 0]].toList 8=some ([.nil,.agg [.nil,.lit (.bool false),.nil,.nil]],[],places) :=
 ⟨[],by kernel_rfl⟩
set_option maxRecDepth 100000 in
set_option maxHeartbeats 2000000 in
theorem lifted (os:Os) (started:os.Started) (H:Type) (enc:TypeId × Value→H) (F:Stop.Interp) :
  ReturnsInHanded {} Tryz.checked os 6 .any ((OpenSpec.ofChange Rows.defnCharsSpec).preRow enc Tryz.prog Tryz.f6 Rows.defnCharsRow.domain false Rows.defnCharsRow.laid) (((OpenSpec.ofChange Rows.defnCharsSpec).at F).post enc Tryz.prog Tryz.f6 false true false false):=by
 obtain ⟨places,hx⟩:=reads os enc
 refine returnsInHanded_of_row (C:=Tryz.checked) (s:=OpenSpec.ofChange Rows.defnCharsSpec) own started (by kernel_rfl) Tryz.func6
  (witness_row_at (enc:=enc) (C:=Tryz.checked) false (laidWorld os) #[.slice none 0 0,.agg #[.slice none 0 0,.bool false,.slice none 0 0,.slice none 0 0]] rfl (by kernel_rfl) (by kernel_rfl) (by kernel_rfl)
    (OpenSpec.preRow_of_cond 8 hx (by kernel_rfl) (fun k hk=>by cases hk) (by kernel_rfl) (laid_met os _))) ?_
 intro W base args ds gs before hval0 hW _ _ _ hL _ _
 have hval:∀ (j:Nat) t v,Tryz.f6.params[j]? =some t→args[j]? =some v→Value.okWide Tryz.prog W .any base t v:=hval0
 have hW':=hW
 obtain ⟨p,q,hA0,hV,rfl,hfz,hnd⟩:=hW
 have hA:DataW.TrodAll enc Tryz.prog W 0 (fun _=>true) true Tryz.f6.params.toList args.toList ds p:=hA0
 rw [Tryz.params6] at hA hval
 obtain ⟨v0,v1,d0,d1,p0,p1,rfl,rfl,rfl,h0,h1⟩:=trodAll_two hA
 obtain ⟨rfl,rfl⟩:=trodVars_none hV
 clear hA0 hval0
 simp only [List.append_nil] at hW'
 have hlt:∀ x ∈ p0++p1,x.block < W.heap.size:=fun x hx=>by simpa using hW'.lt x hx
 have harg0:∀ W',Below W.heap.size W W'→DataW.Trod enc Tryz.prog W' 0 (fun b=>decide (b < W.heap.size)) true 22 v0 d0 p0:=fun W' hb =>
  Below.trod laidOut (by kernel_rfl) (of_decide_eq_true (by kernel_rfl)) h0 hb (fun x hx=>hlt x (List.mem_append.2 (.inl hx)))
 have harg1:∀ W',Below W.heap.size W W'→DataW.Trod enc Tryz.prog W' 0 (fun b=>decide (b < W.heap.size)) true 61 v1 d1 p1:=fun W' hb =>
  Below.trod laidOut (by kernel_rfl) (of_decide_eq_true (by kernel_rfl)) h1 hb (fun x hx=>hlt x (List.mem_append.2 (.inr hx)))
 obtain ⟨a,k,c,rfl⟩:=okWide_slice Tryz.underlying22 (hval 0 22 v0 rfl rfl)
 obtain ⟨q0,q1,q2,q3,y0,y1,y2,y3,fuel,rfl,rfl,rfl,t0,t1,t2,t3⟩:=open_agg4 Tryz.underlying61 (by kernel_rfl) (by kernel_rfl) (hval 1 61 v1 rfl rfl) h1
 obtain ⟨a1,k1,c1,rfl,shape,B,hb⟩:=L4.ints_at Tryz.underlying48 Tryz.underlying3 (by kernel_rfl) t0
 obtain ⟨ch,hch,_⟩:=DataW.trod_bool Tryz.underlying4 t1
 simp only [List.cons.injEq,and_true] at hch
 subst hch
 obtain ⟨a2,k2,c2,rfl,tx,C,hc'⟩:=L4.ints_at Tryz.underlying49 Tryz.underlying21 (by kernel_rfl) t2
 obtain ⟨a3,k3,c3,rfl,hk3,nums,D,hd⟩:=L4.nums_at Tryz.underlying59 Tryz.underlying118 (by kernel_rfl) rfl rfl rfl (by kernel_rfl) (by kernel_rfl) (by kernel_rfl) Tryz.underlying4 Tryz.underlying9 Tryz.underlying9 t3
 obtain ⟨ls,A,hl⟩:=rows_of h0
 have htab:Tabs W :=
  utf8Tabs_of_readsT (U8Types.of196 Tryz.laysValid) ⟨by kernel_rfl,by kernel_rfl,by kernel_rfl,by kernel_rfl,by kernel_rfl,by kernel_rfl,by kernel_rfl⟩ (Lib.laidMet.reads hL (.tail _ (.head _))) (Lib.laidMet.reads hL (.head _))
 refine (calls ls ⟨shape,ch,tx,nums⟩ W htab A hl B hb C hc' D hd hk3).mono fun e W' ⟨he,bel⟩=> ?_
 subst he
 exact ⟨_,rfl,_,_,_,[],_,[],hW',trodAll_mk1 (shut_bool Tryz.underlying4 _),trodAll_mk2 (harg0 W' bel) (harg1 W' bel),rfl,bel.frame _,fun h=>by cases h⟩
theorem said:Rows.DefnCharsSaid :=
 OpenClaim.holds_of_cond 6 Tryz.f6 rfl rfl rfl rfl rfl rfl rfl ⟨rfl,rfl,rfl,rfl,rfl⟩ rfl rfl rfl rfl rfl (by kernel_rfl) Tryz.func6 (by kernel_rfl)
  (of_decide_eq_true (by kernel_rfl)) (by unfold Func.isWrapper;first | (rw [if_pos (by decide +kernel)];kernel_rfl) | (rw [if_neg (by decide +kernel)];exact ⟨rfl,rfl⟩))
  (fun os started H enc _ F=>by rw [OpenClaim.pre_eq_preRow];exact lifted os started H enc F)
theorem plain (f : FuncId) (fn : Func) (hf : Tryz.pinned.checked.prog.funcNamed "typeball/typeballlaw24.DefnChars" = some f) (hfn : Tryz.pinned.checked.prog.funcs[f]? = some fn) :
  false=Tryz.pinned.checked.prog.looks []∧∀ (j:Nat) t,fn.params[j]? =some t→Tryz.pinned.checked.prog.wantsStandIn t=false:=by
 obtain rfl : f = 6 := Option.some.inj ((show Tryz.prog.funcNamed "typeball/typeballlaw24.DefnChars" = some 6 by kernel_rfl).symm.trans hf) |>.symm
 obtain rfl:fn=Tryz.f6:=(Option.some.inj (Tryz.func6.symm.trans hfn)).symm
 refine ⟨by kernel_rfl,fun j t ht=> ?_⟩
 rw [Tryz.params6] at ht
 have hm:=Array.mem_of_getElem? ht
 simp only [List.mem_toArray,List.mem_cons,List.mem_nil_iff,or_false] at hm
 rcases hm with rfl | rfl
 ·exact (show Tryz.prog.wantsStandIn 22=false by kernel_rfl)
 ·exact (show Tryz.prog.wantsStandIn 61=false by kernel_rfl)
theorem proved:Rows.DefnCharsCardSaid :=
 Claim7.holds_tied_plain_at .later [] _ _ _ _ said (fun _ h=>by cases h) (by kernel_rfl) (fun _ h=>by cases h) defnChars_row_tie rfl ⟨rfl,rfl⟩ (by kernel_rfl) rfl plain (by kernel_rfl)
#print axioms proved
end Go.Proofs.YtachkofbmodnnaaGreatDoor.defnChars
namespace Go.Proofs.YtachkofbmodnnaaGreatDoor
theorem defnChars_holds:Rows.DefnCharsCardSaid:=defnChars.proved
end Go.Proofs.YtachkofbmodnnaaGreatDoor
