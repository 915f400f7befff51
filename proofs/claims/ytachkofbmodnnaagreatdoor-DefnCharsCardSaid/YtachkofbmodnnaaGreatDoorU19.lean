/- Proved here: parts of the way to BDefnChars (BH10 BL2 BE1 BE2 BD1); no condition beyond those that each theorem names. -/
import Derived.Test.YtachkofbmodnnaaGreatDoorU18
import Derived.Test.YtachkofbmodnnaaGreatDoorU4
import Derived.Test.YtachkofbmodnnaaGreatDoorU6
set_option linter.unusedSimpArgs false
set_option linter.unusedVariables false
namespace Go.Im.Heads
open Go.Im.Lexing
theorem lexF_len:∀ {f p:Nat} {s:List Int} {ts:List (Nat × Tk)},lexF f p s=some ts→ts.length≤f
 | 0,p,s,ts,h=>by cases h
 | f+1,p,s,ts,h=>by
   simp only [lexF] at h
   split at h
   ·cases h
    simp
   ·split at h
    ·cases h
     simp
    ·split at h
     ·cases h
     ·have:=lexF_len h
      omega
     ·obtain ⟨us,hu,rfl⟩:=Option.map_eq_some_iff.1 h
      have:=lexF_len hu
      simp only [List.length_cons]
      omega
def NT (ts:List (Nat × Tk)):Prop:=∀ t ∈ ts,isN t=true→0 < (wd t).size∧(wd t).size≤96
theorem lex_nt {l:List Int} {ts:List (Nat × Tk)} (h:lex l=some ts):NT ts∧ts.length≤600:=by
 refine ⟨fun t ht hn=>name_sizes (lex_ok h t ht (by simpa [isN] using hn)),?_⟩
 unfold lex at h
 split at h
 ·cases h
 ·exact lexF_len h
theorem locT_ok:∀ {ts:List (Nat × Tk)} {ls:List ByteArray},NT ts→locT ts=some ls→(∀ y ∈ ls,y.size≤96)∧ls.length≤ts.length
 | [],ls,_,h=>by
   cases h
   simp
 | [a],ls,_,h=>by cases h
 | a::b::r,ls,hN,h=>by
   simp only [locT] at h
   split at h
   ·rename_i hab
    simp only [Bool.and_eq_true] at hab
    obtain ⟨ms,hm,rfl⟩:=Option.map_eq_some_iff.1 h
    obtain ⟨h1,h2⟩:=locT_ok (fun t ht=>hN t (by simp [ht])) hm
    refine ⟨fun y hy=> ?_,by simp only [List.length_cons];omega⟩
    rcases List.mem_cons.1 hy with rfl | hy
    ·exact (hN b (by simp) hab.2).2
    ·exact h1 y hy
   ·cases h
theorem e96:E.size≤96:=by decide
theorem mem_tw {α:Type} {p:α→Bool} {t:α}:∀ {l:List α},t ∈ l.takeWhile p→p t=true
 | [],h=>by simp at h
 | a::l,h=>by
   by_cases ha:p a=true
   ·rw [List.takeWhile_cons_of_pos ha] at h
    rcases List.mem_cons.1 h with rfl | h
    ·exact ha
    ·exact mem_tw h
   ·rw [List.takeWhile_cons_of_neg ha] at h
    simp at h
theorem resT_ok {ts:List (Nat × Tk)} (hN:NT ts):(resT ts).1.size≤96∧NT (resT ts).2∧(resT ts).2.length≤ts.length:=by
 match ts,hN with
 | [],hN=>exact ⟨e96,hN,Nat.le_refl _⟩
 | [a],hN=>exact ⟨e96,hN,Nat.le_refl _⟩
 | a::b::r,hN =>
   simp only [resT]
   split
   ·rename_i hab
    simp only [Bool.and_eq_true] at hab
    exact ⟨(hN a (by simp) hab.1).2,fun t ht=>hN t (by simp [ht]),by simp only [List.length_cons];omega⟩
   ·exact ⟨e96,hN,Nat.le_refl _⟩
structure Good (x:HdT):Prop where
 nm:x.nm.size≤96
 re:x.re.size≤96
 le:x.le.size≤96
 ri:x.ri.size≤96
 ls:∀ y ∈ x.ls,y.size≤96
 few:x.ls.length≤600
 two:x.ri=E→x.le=E
theorem good_z:Good hdZ:=⟨by decide,by decide,by decide,by decide,by simp [hdZ],by simp [hdZ],fun _=>rfl⟩
theorem parseT_good {ts:List (Nat × Tk)} {x:HdT} (hN:NT ts) (hl:ts.length≤600) (h:parseT ts=some x):Good x:=by
 obtain ⟨r1,r2,r3⟩:=resT_ok hN
 have hns:∀ y ∈ ((resT ts).2.takeWhile isN).map wd,0 < y.size∧y.size≤96:=by
  intro y hy
  obtain ⟨t,ht,rfl⟩:=List.mem_map.1 hy
  exact r2 t ((List.takeWhile_prefix isN).sublist.subset ht) (mem_tw ht)
 unfold parseT at h
 simp only at h
 split at h
 ·cases h
 ·rename_i ls hls
  obtain ⟨l1,l2⟩:=locT_ok (fun t ht=>r2 t (List.mem_of_mem_drop ht)) hls
  rw [List.length_drop] at l2
  split at h
  ·cases h
  ·rename_i y hy
   split at h
   ·cases h
    have e0:∀ {p:Prop},(E.size≤96→p)→p:=fun f=>f (by decide)
    generalize ((resT ts).2.takeWhile isN).map wd=ns at hns hy
    match ns,hns,hy with
    | [f],hns,hy =>
      cases hy
      exact ⟨(hns f (by simp)).2,r1,e96,e96,l1,by simp only;omega,fun _=>rfl⟩
    | [f,b],hns,hy =>
      cases hy
      exact ⟨(hns f (by simp)).2,r1,e96,(hns b (by simp)).2,l1,by simp only;omega,fun _=>rfl⟩
    | [a,f,b],hns,hy =>
      cases hy
      refine ⟨(hns f (by simp)).2,r1,(hns a (by simp)).2,(hns b (by simp)).2,l1,by simp only;omega,fun hh=> ?_⟩
      simp only at hh
      have:=(hns b (by simp)).1
      rw [hh] at this
      exact absurd this (by decide)
   ·cases h
theorem hdp_good (l:List Int):Good (hdp l).1:=by
 unfold hdp
 split
 ·exact good_z
 ·rename_i ts hts
  obtain ⟨h1,h2⟩:=lex_nt hts
  split
  ·exact good_z
  ·rename_i x hx
   exact parseT_good h1 h2 hx
end Go.Im.Heads
namespace Go.Proofs.YtachkofbmodnnaaGreatDoor.H9
open Go Go.Im Go.Im.Limbs Go.Im.Lexing Go.Im.Heads Go.Proofs Go.RowKit Go.Sort Hd N18 N19 N23 N26 R8 R9 T0 H2 H3 H4 H5 H6 H7 H8
set_option maxRecDepth 100000
end Go.Proofs.YtachkofbmodnnaaGreatDoor.H9
namespace Go.Im.Lexing
def labelL (l:List Int):ByteArray × List Int:=match lex l with
 | some (t::u::_)=>if t.2.kind=2∧isM u.2 58=true then (runesBytes t.2.word,l.drop (u.1+1)) else (ByteArray.empty,l)
 | _=>(ByteArray.empty,l)
end Go.Im.Lexing
namespace Go.Proofs.YtachkofbmodnnaaGreatDoor.L1
open Go Go.Im Go.Im.Limbs Go.Im.Lexing Go.Proofs Go.RowKit Hd N18 N19 N23 N26 R8 R9 T0
set_option maxRecDepth 100000
theorem label_run (l:List Int) {v:Value} (h:Heap) (t:Tx h v l) (hm:l.length≤1000000):Runs K 37 #[v] h fun r w=>∃ u,r= .tuple #[.string (labelL l).1,u]∧Tx w u (labelL l).2:=by
 obtain ⟨a,c,rfl⟩:=t.open
 refine Runs.of Kok (Does.intro rfl (by decide +kernel) Tryz.func37 rfl ?_)
 simp +decide only [go_sem,WR,WS]
 refine W_call Kok (Nat.le_refl _) (lex_run h t) fun r w1 x1 hr=> ?_
 have t1:=t.ext x1
 rcases hr with ⟨hlex,rfl⟩ | ⟨xs,a1,c1,hlex,hA,hxl,rfl,s1⟩
 ·simp +decide only [go_sem,WR,WS]
  unfold labelL
  rw [hlex]
  exact ⟨_,rfl,t1⟩
 by_cases h2:((xs.length:Nat):Int) < 2
 ·simp +decide only [go_sem,WR,WS,h2]
  unfold labelL
  rw [hlex]
  match xs,h2 with
  | [],_=>exact ⟨_,rfl,t1⟩
  | [x],_=>exact ⟨_,rfl,t1⟩
  | _::_::_,h2=>simp at h2;omega
 obtain ⟨X,Y,rest,rfl⟩:∃ X Y rest,xs=X::Y::rest:=by
  match xs,h2 with
  | [],h2=>simp at h2
  | [x],h2=>simp at h2
  | X::Y::rest,_=>exact ⟨_,_,_,rfl⟩
 have hris:=lex_rising hlex
 obtain ⟨_,⟨ch,hch,_⟩,_⟩:=hris.at (i:=1) (t:=Y.1) rfl
 have hYl:=(List.getElem?_eq_some_iff.1 hch).1
 have hne:l≠[]:=by
  rintro rfl
  simp at hYl
 obtain ⟨b1,o1,cs1,p1,p2,p3,p4,_,p6,_,_,p5⟩:=Sl.tok (i:=0) s1 hA rfl rfl
 obtain ⟨b2,o2,cs2,r1,r2,r3,_,r4,_,_,r6,r5⟩:=Sl.tok (i:=1) s1 hA rfl rfl
 subst p1
 cases r1
 rw [p3] at r3
 cases r3
 have p4':cs1[o1]? =some (.int .i64 (X.1.2.kind:Int)):=by simpa using p4
 have p6':cs1[o1+2]? =some (.string (runesBytes X.1.2.word)):=by simpa using p6
 have r4':cs1[o1+9+1]? =some (.int .i64 (Y.1.1:Int)):=by simpa using r4
 have r5':o1+9+9≤cs1.length:=by simpa using r5
 have r6':(cs1.drop (o1+9)).take 9=tc4 Y.1++Y.2:=by simpa using r6
 have n0:(0:Int) < (((X::Y::rest).length:Nat):Int):=by simp only [List.length_cons];omega
 have n1:(1:Int) < (((X::Y::rest).length:Nat):Int):=by simp only [List.length_cons];omega
 have hYA:=hA Y (by simp)
 have hspec:labelL l=if X.1.2.kind=2∧isM Y.1.2 58=true then (runesBytes X.1.2.word,l.drop (Y.1.1+1)) else (ByteArray.empty,l):=by
  unfold labelL
  rw [hlex]
  rfl
 rw [hspec]
 generalize hL:(X::Y::rest).length=L at *
 by_cases hk:X.1.2.kind=2
 case neg =>
  have hk':¬ ((X.1.2.kind:Nat):Int)=2:=by omega
  rw [if_neg (fun hh=>hk hh.1)]
  simp +decide only [go_sem,WR,WS,h2,n0,p3,p4',hk',Nat.add_zero,Nat.zero_mul]
  exact ⟨_,rfl,t1⟩
 have hk':((X.1.2.kind:Nat):Int)=2:=by omega
 simp +decide only [go_sem,WR,WS,h2,n0,n1,p3,p4',hk',Nat.add_zero,Nat.zero_mul,Nat.one_mul,r5',r6']
 refine W_call Kok x1.1 (is_run Y.1 hYA 58 w1) fun r w2 x2 hr=> ?_
 subst hr
 have t2:=t1.ext x2
 have p3':(w2.get b1).read= .cells cs1 9:=by rw [x2.2 _ p2];exact p3
 cases hm58:isM Y.1.2 58 with
 | false =>
   rw [if_neg (by simp)]
   simp +decide only [go_sem,WR,WS]
   exact ⟨_,rfl,t2⟩
 | true =>
 rw [if_pos ⟨hk,rfl⟩]
 have i1:IntKind.i64.wrap (((Y.1.1:Nat):Int)+1)=((Y.1.1+1:Nat):Int):=by rw [wrap_i64 (by omega) (by omega)];omega
 obtain ⟨a',c1',c2'⟩:=t2.rest hne (lo:=Y.1.1+1) (by omega)
 simp +decide only [go_sem,WR,WS,n0,n1,p3',p6',r4',Nat.add_zero,Nat.zero_mul,Nat.one_mul,i1,c1']
 exact ⟨_,rfl,c2'⟩
theorem name23_run (ys:List XT) (h:Heap) {a:Option Addr} {c:Nat} (s:Sl h 8 a ys.length c (xcs ys)) (hA:∀ x ∈ ys,Arr4 x.2) (hl:ys.length≤1000) (i:Nat):Runs K 83 #[.slice a ys.length c,.int .i64 (i:Int)] h fun r w=>r= .bool (match ys[i]? with
  | some y=>decide (y.1.2.kind=2)
  | none=>false)∧w=h:=by
 refine Runs.of Kok (Does.intro rfl (by decide +kernel) Tryz.func83 rfl ?_)
 by_cases hil:(i:Int) < ((ys.length:Nat):Int)
 ·obtain ⟨Y,hY⟩:∃ Y,ys[i]? =some Y:=⟨_,List.getElem?_eq_getElem (by omega)⟩
  obtain ⟨b1,o1,cs1,rfl,p2,p3,p4,_,_,_,_,p5⟩:=Sl.tok8 s hA rfl hY
  have j0:(0:Int)≤(i:Int):=by omega
  simp +decide only [go_sem,WR,WS,hil,j0,Int.toNat_natCast,p3,p4,Nat.add_zero]
  simp only [hY,and_true]
  rw [show decide (((Y.1.2.kind:Nat):Int)=2)=decide (Y.1.2.kind=2) from decide_eq_decide.2 (by omega)]
 ·have:ys[i]? =none:=List.getElem?_eq_none (by omega)
  simp +decide only [go_sem,WR,WS,hil]
  simp [this]
theorem rlabel_run (l:List Int) {v:Value} (h:Heap) (t:Tx h v l) (hm:l.length≤512):Runs K 43 #[v] h fun r w=>∃ u,r= .tuple #[.string (labelL l).1,u]∧Tx w u (labelL l).2:=by
 obtain ⟨a,c,rfl⟩:=t.open
 refine Runs.of Kok (Does.intro rfl (by decide +kernel) Tryz.func43 rfl ?_)
 simp +decide only [go_sem,WR,WS]
 refine W_call Kok (Nat.le_refl _) (rlex_run h t) fun r w1 x1 hr=> ?_
 have t1:=t.ext x1
 rcases hr with ⟨hlex,rfl⟩ | ⟨xs,a1,c1,hlex,hA,hxl,rfl,s1⟩
 ·simp +decide only [go_sem,WR,WS]
  unfold labelL
  rw [hlex]
  exact ⟨_,rfl,t1⟩
 simp +decide only [go_sem,WR,WS]
 refine W_call Kok x1.1 (name23_run xs w1 s1 hA (by omega) 0) fun r w2 x2 hr=> ?_
 obtain ⟨rfl,rfl⟩:=hr
 match xs,hlex,hA,s1 with
 | [],hlex,hA,s1 =>
   simp +decide only [go_sem,WR,WS]
   unfold labelL
   rw [hlex]
   exact ⟨_,rfl,t1⟩
 | [X],hlex,hA,s1 =>
   have hsp:labelL l=(ByteArray.empty,l):=by
    unfold labelL
    rw [hlex]
    rfl
   rw [hsp]
   by_cases hk:X.1.2.kind=2
   ·simp +decide only [go_sem,WR,WS,hk]
    exact ⟨_,rfl,t1⟩
   ·simp +decide only [go_sem,WR,WS,hk]
    exact ⟨_,rfl,t1⟩
 | X::Y::rest,hlex,hA,s1 =>
 have hspec:labelL l=if X.1.2.kind=2∧isM Y.1.2 58=true then (runesBytes X.1.2.word,l.drop (Y.1.1+1)) else (ByteArray.empty,l):=by
  unfold labelL
  rw [hlex]
  rfl
 rw [hspec]
 have hris:=lex_rising hlex
 obtain ⟨_,⟨ch,hch,_⟩,_⟩:=hris.at (i:=1) (t:=Y.1) rfl
 have hYl:=(List.getElem?_eq_some_iff.1 hch).1
 have hne:l≠[]:=by
  rintro rfl
  simp at hYl
 obtain ⟨b1,o1,cs1,p1,p2,p3,_,_,p6,_,_,p5⟩:=Sl.tok8 (i:=0) s1 hA rfl rfl
 obtain ⟨b2,o2,cs2,r1,r2,r3,_,r4,_,_,r6,r5⟩:=Sl.tok8 (i:=1) s1 hA rfl rfl
 subst p1
 cases r1
 rw [p3] at r3
 cases r3
 have p6':cs1[o1+2]? =some (.string (runesBytes X.1.2.word)):=by simpa using p6
 have r4':cs1[o1+8+1]? =some (.int .i64 (Y.1.1:Int)):=by simpa using r4
 have r5':o1+8+8≤cs1.length:=by simpa using r5
 have r6':(cs1.drop (o1+8)).take 8=tc4 Y.1++Y.2:=by simpa using r6
 have n0:(0:Int) < (((X::Y::rest).length:Nat):Int):=by simp only [List.length_cons];omega
 have n1:(1:Int) < (((X::Y::rest).length:Nat):Int):=by simp only [List.length_cons];omega
 have n2:¬ (((X::Y::rest).length:Nat):Int) < 2:=by simp only [List.length_cons];omega
 have hYA:=hA Y (by simp)
 have hdk:(match (X::Y::rest)[0]? with
  | some y=>decide (y.1.2.kind=2)
  | none=>false)=decide (X.1.2.kind=2):=rfl
 rw [hdk]
 generalize hL:(X::Y::rest).length=L at *
 by_cases hk:X.1.2.kind=2
 case neg =>
  rw [if_neg (fun hh=>hk hh.1)]
  simp +decide only [go_sem,WR,WS,hk]
  exact ⟨_,rfl,t1⟩
 simp +decide only [go_sem,WR,WS,hk,n1,n2,p3,Nat.add_zero,Nat.zero_mul,Nat.one_mul,r5',r6']
 refine W_call Kok x1.1 (ris_run Y.1 hYA 58 w2) fun r w3 x3 hr=> ?_
 subst hr
 have t2:=t1.ext x3
 have p3':(w3.get b1).read= .cells cs1 8:=by rw [x3.2 _ p2];exact p3
 cases hm58:isM Y.1.2 58 with
 | false =>
   rw [if_neg (by simp)]
   simp +decide only [go_sem,WR,WS]
   exact ⟨_,rfl,t2⟩
 | true =>
 rw [if_pos rfl]
 have i1:IntKind.i64.wrap (((Y.1.1:Nat):Int)+1)=((Y.1.1+1:Nat):Int):=by rw [wrap_i64 (by omega) (by omega)];omega
 obtain ⟨a',c1',c2'⟩:=t2.rest hne (lo:=Y.1.1+1) (by omega)
 simp +decide only [go_sem,WR,WS,n0,n1,p3',p6',r4',Nat.add_zero,Nat.zero_mul,Nat.one_mul,i1,c1']
 exact ⟨_,rfl,c2'⟩
end Go.Proofs.YtachkofbmodnnaaGreatDoor.L1
namespace Go.Im.Editing
open Go Go.Im Go.Im.Lexing
def isB (c:Int):Bool:=decide (c=32)
def rtrim (l:List Int):List Int:=(l.reverse.dropWhile isB).reverse
def trimS (l:List Int):List Int:=rtrim (l.dropWhile isB)
theorem dw_all {p:Int→Bool}:∀ {a r:List Int},a.all p=true→(a++r).dropWhile p=r.dropWhile p
 | [],r,_=>rfl
 | x::a,r,h=>by
   simp only [List.all_cons,Bool.and_eq_true] at h
   rw [List.cons_append,List.dropWhile_cons_of_pos h.1,dw_all h.2]
theorem dw_stop {p:Int→Bool} {l:List Int} (h:∀ c,l[0]? =some c→p c=false):l.dropWhile p=l:=by
 cases l with
 | nil=>rfl
 | cons c l =>
   rw [List.dropWhile_cons_of_neg]
   have:=h c rfl
   simp [this]
theorem ltrim_of {l:List Int} {k:Nat} (h1:(l.take k).all isB=true) (h2:∀ c,l[k]? =some c→isB c=false):l.dropWhile isB=l.drop k:=by
 have e:=dw_all (r:=l.drop k) h1
 rw [List.take_append_drop] at e
 rw [e]
 exact dw_stop fun c hc=>h2 c (by rw [List.getElem?_drop] at hc;exact hc)
theorem rtrim_of {m:List Int} {k:Nat} (h0:k≤m.length) (h1:(m.drop k).all isB=true) (h2:0 < k→∀ c,m[k - 1]? =some c→isB c=false):rtrim m=m.take k:=by
 unfold rtrim
 have e:m.reverse=(m.drop k).reverse++(m.take k).reverse:=by rw [← List.reverse_append,List.take_append_drop]
 rw [e,dw_all (by rw [List.all_reverse];exact h1),dw_stop,List.reverse_reverse]
 intro c hc
 by_cases hk:k=0
 ·subst hk
  simp at hc
 ·refine h2 (by omega) c ?_
  rw [List.getElem?_reverse (by simp;omega),List.length_take,List.getElem?_take] at hc
  rw [if_pos (by omega)] at hc
  rw [← hc]
  congr 1
  omega
theorem rtrim_len (m:List Int):(rtrim m).length≤m.length:=by
 unfold rtrim
 rw [List.length_reverse]
 have:=(List.dropWhile_suffix isB (l:=m.reverse)).length_le
 simpa using this
theorem trim_len (l:List Int):(trimS l).length≤l.length:=by
 have h1:=rtrim_len (l.dropWhile isB)
 have h2:=(List.dropWhile_suffix isB (l:=l)).length_le
 unfold trimS
 omega
end Go.Im.Editing
namespace Go.Im
def Ln (h:Heap) (v:Value) (l:List Int):Prop:=(l=[]∧(v= .slice none 0 0∨∃ b o,v= .slice (some ⟨b,o,none⟩) 0 0))∨∃ b o cs,v= .slice (some ⟨b,o,none⟩) l.length big∧b < h.size∧(h.get b).read= .cells cs 1∧o+l.length≤cs.length∧rv l=(cs.drop o).take l.length
theorem Ln.tx {h:Heap} {v:Value} {l:List Int} (t:Ln h v l):Tx h v l:=by
 rcases t with ⟨rfl,rfl | ⟨b,o,rfl⟩⟩ | t
 ·exact .inl ⟨rfl,_,0,rfl⟩
 ·exact .inl ⟨rfl,_,0,rfl⟩
 ·exact .inr t
theorem Ln.ext {h h':Heap} (k:Ext h h') {v:Value} {l:List Int} (t:Ln h v l):Ln h' v l:=by
 rcases t with t | ⟨b,o,cs,h1,h2,h3,h4⟩
 ·exact .inl t
 ·exact .inr ⟨b,o,cs,h1,by have:=k.1;omega,by rw [k.2 b h2];exact h3,h4⟩
theorem Ln.open {h:Heap} {v:Value} {l:List Int} (t:Ln h v l):∃ a c,v= .slice a l.length c:=t.tx.open
theorem Ln.new {h:Heap} {b:Nat} {l:List Int} (hb:b < h.size) (hg:h.get b= .cells (rv l) 1):Ln h (.slice (some ⟨b,0,none⟩) l.length big) l :=
 .inr ⟨b,0,rv l,rfl,hb,by rw [hg];rfl,by rw [rv_length];omega,by rw [List.drop_zero,List.take_of_length_le (by rw [rv_length];omega)]⟩
theorem Ln.islice {h:Heap} {a:Option Addr} {n c:Nat} {l:List Int} (t:Ln h (.slice a n c) l):islice h 1 (.slice a n c)=some (rv l):=by
 rcases t with ⟨rfl,hv | ⟨b,o,hv⟩⟩ | ⟨b,o,cs,hv,h2,h3,h4,h5⟩
 ·cases hv
  rfl
 ·cases hv
  simp only [Im.islice,rv,intCells,List.map_nil]
  split<;>simp
 ·cases hv
  simp only [Im.islice,Heap.look,h3]
  rw [if_pos ⟨trivial,by omega⟩,h5,Nat.mul_one]
theorem Ln.cut {h:Heap} {a:Option Addr} {n c:Nat} {l:List Int} (t:Ln h (.slice a n c) l) {lo hi:Option Value} {x y:Nat} (hlo:boundOf 0 lo=some x) (hhi:boundOf l.length hi=some y) (h1:x≤y) (h2:y≤l.length) :
  ∃ a' c',irsl (some (.slice 1)) h a n c lo hi none=some (.slice a' (y - x) c')∧Ln h (.slice a' (y - x) c') ((l.drop x).take (y - x)):=by
 rcases t with ⟨rfl,hv⟩ | ⟨b,o,cs,hv,e2,e3,e4,e5⟩
 ·have hc:n=0∧c=0:=by
   rcases hv with hv | ⟨b,o,hv⟩<;>(cases hv;exact ⟨rfl,rfl⟩)
  obtain ⟨rfl,rfl⟩:=hc
  have:y=0:=by simpa using h2
  subst this
  have:x=0:=by omega
  subst this
  have hin:iinds 0 0 lo hi none=some (0,0,0):=iinds_of hlo hhi (by omega) (by omega)
  refine ⟨a,0,?_,.inl ⟨by simp,hv⟩⟩
  simp only [irsl,hin]
  simp [big]
 ·cases hv
  have hin:=iinds_of (n:=l.length) (cap:=cs.length - o) hlo hhi h1 (by omega)
  have hlen:((l.drop x).take (y - x)).length=y - x:=by simp;omega
  have hcs:rv ((l.drop x).take (y - x))=(cs.drop (o+x)).take (y - x):=by
   rw [← rv_take,← rv_drop,e5,List.drop_take,List.take_take,List.drop_drop]
   congr 1
   omega
  refine ⟨some ⟨b,o+x,none⟩,big,?_,.inr ⟨b,o+x,cs,by rw [hlen],e2,e3,by rw [hlen];omega,by rw [hlen];exact hcs⟩⟩
  simp only [irsl,Nat.lt_irrefl,if_false,if_true,Heap.look,e3,Nat.div_one,hin,Nat.mul_one,ne_eq,not_true_eq_false]
theorem Ln.one {h:Heap} {v:Value} {l:List Int} {i:Nat} {x:Int} (t:Ln h v l) (hx:l[i]? =some x) :
  ∃ b o cs,v= .slice (some ⟨b,o,none⟩) l.length big∧b < h.size∧(h.get b).read= .cells cs 1∧cs[o+i]? =some (.int .i32 x):=t.tx.one hx
end Go.Im
namespace Go.Proofs.YtachkofbmodnnaaGreatDoor.E2
open Go Go.Im Go.Im.Lexing Go.Im.Editing Go.Proofs Go.RowKit Hd
set_option maxRecDepth 100000
theorem drop_one {l:List Int} {k:Nat}:(l.drop k).drop 1=l.drop (k+1):=by rw [List.drop_drop]
theorem trim_run (l:List Int) (h:Heap) {tv:Value} (t:Ln h tv l) (hm:l.length≤1000000):Runs K 35 #[tv] h fun r w=>w=h∧Ln h r (trimS l):=by
 refine Runs.of Kok (Does.intro rfl (by decide +kernel) Tryz.func35 rfl ?_)
 apply W_join (α:=Value × List Int) (fun v e w=>e.size=32∧h=w∧e.get 0=v.1∧Ln h v.1 v.2∧v.2=l.dropWhile isB)
 ·intro cont
  simp +decide only [go_sem,WR,WS]
  refine W_loop (α:=Nat × Value) (fun k e w=>k.1≤l.length∧e.size=32∧h=w∧e.get 0=k.2∧Ln h k.2 (l.drop k.1)∧(l.take k.1).all isB=true) (fun k=>l.length - k.1) (0,tv) ?_ ?_
  ·exact ⟨Nat.zero_le _,by simp +decide only [go_sem],rfl,by simp +decide only [go_sem],by simpa using t,by simp⟩
  rintro ⟨k,v⟩ e w ⟨hk,hsz,hw,e0,tk,hall⟩ next
  subst hw
  simp only at hk e0 tk hall
  by_cases hkl:k < l.length
  ·obtain ⟨x,hx⟩:∃ x,l[k]? =some x:=⟨_,List.getElem?_eq_getElem hkl⟩
   have hx0:(l.drop k)[0]? =some x:=by rw [List.getElem?_drop];exact hx
   obtain ⟨b,o,cs,rfl,q2,q3,q4⟩:=tk.one hx0
   rw [Nat.add_zero] at q4
   have d0:(0:Int) < (((l.drop k).length:Nat):Int):=by rw [List.length_drop];omega
   by_cases h32:x=32
   ·obtain ⟨a',c',f1,tk'⟩:=tk.cut (lo:=some (.int .i64 1)) (hi:=none) (x:=1) (y:=(l.drop k).length) rfl rfl (by rw [List.length_drop];omega) (Nat.le_refl _)
    rw [drop_one,List.take_of_length_le (by simp only [List.length_drop];omega)] at tk'
    simp +decide only [go_sem,WR,WS,hsz,e0,d0,q3,q4,h32,f1]
    refine next (k+1,.slice a' ((l.drop k).length - 1) c') _ _ ⟨by simp only;omega,by simp +decide only [go_sem,hsz],rfl,by simp +decide only [go_sem,hsz],tk',?_⟩ (by simp only;omega)
    rw [List.take_add_one,hx,List.all_append,hall]
    simp [isB,h32]
   ·simp +decide only [go_sem,WR,WS,hsz,e0,d0,q3,q4,h32]
    refine cont (_,l.drop k) _ _ ⟨by simp +decide only [go_sem,hsz],rfl,by simp +decide only [go_sem,hsz,e0],tk,(ltrim_of hall fun c hc=> ?_).symm⟩
    rw [hx] at hc
    cases hc
    simp [isB,h32]
  ·have hke:l.drop k=[]:=List.drop_of_length_le (by omega)
   rw [hke] at tk
   obtain ⟨a,c,rfl⟩:=tk.open
   simp +decide only [go_sem,WR,WS,hsz,e0,List.length_nil,Int.natCast_zero,Int.lt_irrefl]
   refine cont (_,[]) _ _ ⟨by simp +decide only [go_sem,hsz],rfl,by simp +decide only [go_sem,hsz,e0],tk,?_⟩
   rw [← hke]
   exact (ltrim_of hall fun c hc=>by simp [List.getElem?_eq_none (show l.length≤k by omega)] at hc).symm
 rintro ⟨v,m⟩ e w ⟨hsz,hw,e0,tm,hm'⟩
 subst hw
 simp only at e0 tm hm'
 have hml:m.length≤l.length:=by rw [hm'];exact (List.dropWhile_suffix isB).length_le
 refine W_loop (α:=Nat × Value) (fun k e w'=>k.1≤m.length∧e.size=32∧h=w'∧e.get 0=k.2∧Ln h k.2 (m.take k.1)∧(m.drop k.1).all isB=true) (fun k=>k.1) (m.length,v) ?_ ?_
 ·exact ⟨Nat.le_refl _,hsz,rfl,e0,by simpa using tm,by simp⟩
 rintro ⟨k,v⟩ e w' ⟨hk,hsz,hw,e0,tk,hall⟩ next
 subst hw
 simp only at hk e0 tk hall
 have hkl:(m.take k).length=k:=by simp;omega
 by_cases h0:0 < k
 ·obtain ⟨x,hx⟩:∃ x,m[k - 1]? =some x:=⟨_,List.getElem?_eq_getElem (by omega)⟩
  have hx0:(m.take k)[k - 1]? =some x:=by rw [List.getElem?_take,if_pos (by omega)];exact hx
  obtain ⟨b,o,cs,rfl,q2,q3,q4⟩:=tk.one hx0
  have d0:(0:Int) < ((k:Nat):Int):=by omega
  have i1:IntKind.i64.wrap ((k:Int) - 1)=((k - 1:Nat):Int):=by rw [wrap_i64 (by omega) (by omega)];omega
  have c0:(0:Int)≤((k - 1:Nat):Int):=by omega
  have c1:((k - 1:Nat):Int) < ((k:Nat):Int):=by omega
  by_cases h32:x=32
  ·obtain ⟨a',c',f1,tk'⟩:=tk.cut (lo:=none) (hi:=some (.int .i64 ((k - 1:Nat):Int))) (x:=0) (y:=k - 1) rfl (by simp [boundOf]) (Nat.zero_le _) (by omega)
   rw [List.drop_zero,List.take_take,Nat.sub_zero,Nat.min_eq_left (by omega)] at tk'
   rw [hkl] at f1 e0
   simp +decide only [go_sem,WR,WS,hsz,e0,d0,i1,c0,c1,Int.toNat_natCast,q3,q4,h32,f1]
   refine next (k - 1,.slice a' (k - 1) c') _ _ ⟨by simp only;omega,by simp +decide only [go_sem,hsz],rfl,by simp +decide only [go_sem,hsz,Nat.sub_zero],tk',?_⟩ (by simp only;omega)
   have hd:m.drop (k - 1)=x::m.drop k:=by
    obtain ⟨g1,g2⟩:=List.getElem?_eq_some_iff.1 hx
    rw [List.drop_eq_getElem_cons g1,g2]
    congr 2
    omega
   rw [hd,List.all_cons,hall]
   simp [isB,h32]
  ·rw [hkl] at e0
   simp +decide only [go_sem,WR,WS,hsz,e0,d0,i1,c0,c1,Int.toNat_natCast,q3,q4,h32]
   rw [trimS,← hm',rtrim_of hk hall fun _ c hc=>by rw [hx] at hc;cases hc;simp [isB,h32],← hkl]
   rw [hkl]
   rw [hkl] at tk
   exact tk
 ·have hk0:k=0:=by omega
  subst hk0
  obtain ⟨a,c,rfl⟩:=tk.open
  rw [hkl] at e0
  simp +decide only [go_sem,WR,WS,hsz,e0,Int.natCast_zero,Int.lt_irrefl]
  rw [trimS,← hm',rtrim_of hk hall fun hh=>absurd hh (by omega)]
  exact tk
theorem rtrim_run (l:List Int) (h:Heap) {tv:Value} (t:Ln h tv l) (hm:l.length≤1000000):Runs K 41 #[tv] h fun r w=>w=h∧Ln h r (trimS l):=by
 refine Runs.of Kok (Does.intro rfl (by decide +kernel) Tryz.func41 rfl ?_)
 obtain ⟨a,c,rfl⟩:=t.open
 apply W_join (α:=Nat) (fun k e w=>e.size=36∧h=w∧e.get 0= .slice a l.length c∧e.get 3= .int .i64 (k:Int)∧e.get 4= .int .i64 ((l.length:Nat):Int)∧k≤l.length∧l.drop k=l.dropWhile isB)
 ·intro cont
  simp +decide only [go_sem,WR,WS]
  refine W_loop (α:=Nat) (fun k e w=>k≤l.length∧e.size=36∧h=w∧e.get 0= .slice a l.length c∧e.get 3= .int .i64 (k:Int)∧e.get 4= .int .i64 ((l.length:Nat):Int)∧(l.take k).all isB=true) (fun k=>l.length - k) 0 ?_ ?_
  ·exact ⟨Nat.zero_le _,by simp +decide only [go_sem],rfl,by simp +decide only [go_sem],by simp +decide only [go_sem];rfl,by simp +decide only [go_sem],by simp⟩
  rintro k e w ⟨hk,hsz,hw,e0,e3,e4,hall⟩ next
  subst hw
  by_cases hkl:(k:Int) < ((l.length:Nat):Int)
  ·obtain ⟨x,hx⟩:∃ x,l[k]? =some x:=⟨_,List.getElem?_eq_getElem (by omega)⟩
   obtain ⟨b,o,cs,hq,q2,q3,q4⟩:=t.one hx
   cases hq
   have c0:(0:Int)≤(k:Int):=by omega
   have i1:IntKind.i64.wrap ((k:Int)+1)=((k+1:Nat):Int):=by rw [wrap_i64 (by omega) (by omega)];omega
   by_cases h32:x=32
   ·simp +decide only [go_sem,WR,WS,hsz,e0,e3,e4,hkl,c0,Int.toNat_natCast,q3,q4,h32,i1]
    refine next (k+1) _ _ ⟨by omega,by simp +decide only [go_sem,hsz],rfl,by simp +decide only [go_sem,hsz,e0],by simp +decide only [go_sem,hsz],by simp +decide only [go_sem,hsz,e4],?_⟩ (by omega)
    rw [List.take_add_one,hx,List.all_append,hall]
    simp [isB,h32]
   ·simp +decide only [go_sem,WR,WS,hsz,e0,e3,e4,hkl,c0,Int.toNat_natCast,q3,q4,h32]
    refine cont k _ _ ⟨by simp +decide only [go_sem,hsz],rfl,by simp +decide only [go_sem,hsz,e0],by simp +decide only [go_sem,hsz,e3],by simp +decide only [go_sem,hsz,e4],hk,(ltrim_of hall fun c hc=> ?_).symm⟩
    rw [hx] at hc
    cases hc
    simp [isB,h32]
  ·simp +decide only [go_sem,WR,WS,hsz,e0,e3,e4,hkl]
   refine cont k _ _ ⟨by simp +decide only [go_sem,hsz],rfl,by simp +decide only [go_sem,hsz,e0],by simp +decide only [go_sem,hsz,e3],by simp +decide only [go_sem,hsz,e4],hk,(ltrim_of hall fun c hc=> ?_).symm⟩
   rw [List.getElem?_eq_none (by omega)] at hc
   cases hc
 rintro f e w ⟨hsz,hw,e0,e3,e4,hf,hdw⟩
 subst hw
 refine W_loop (α:=Nat) (fun k e w'=>f≤k∧k≤l.length∧e.size=36∧h=w'∧e.get 0= .slice a l.length c∧e.get 3= .int .i64 (f:Int)∧e.get 4= .int .i64 (k:Int)∧(l.drop k).all isB=true) (fun k=>k) l.length ?_ ?_
 ·exact ⟨hf,Nat.le_refl _,hsz,rfl,e0,e3,e4,by simp⟩
 rintro k e w' ⟨hfk,hk,hsz,hw,e0,e3,e4,hall⟩ next
 subst hw
 have fin:(f < k→∀ c,l[k - 1]? =some c→isB c=false)→trimS l=(l.drop f).take (k - f):=fun hh=>by
  rw [trimS,← hdw]
  refine rtrim_of (by simp;omega) ?_ fun h0 c hc=> ?_
  ·rw [List.drop_drop,show f+(k - f)=k by omega]
   exact hall
  ·rw [List.getElem?_drop,show f+(k - f - 1)=k - 1 by omega] at hc
   exact hh (by omega) c hc
 have j0:(0:Int)≤(f:Int):=by omega
 obtain ⟨a',c',f1,tk'⟩:=t.cut (lo:=some (.int .i64 (f:Int))) (hi:=some (.int .i64 (k:Int))) (x:=f) (y:=k) (by simp [boundOf]) (by simp [boundOf]) hfk hk
 by_cases h0:(f:Int) < ((k:Nat):Int)
 ·obtain ⟨x,hx⟩:∃ x,l[k - 1]? =some x:=⟨_,List.getElem?_eq_getElem (by omega)⟩
  obtain ⟨b,o,cs,hq,q2,q3,q4⟩:=t.one hx
  cases hq
  have i1:IntKind.i64.wrap ((k:Int) - 1)=((k - 1:Nat):Int):=by rw [wrap_i64 (by omega) (by omega)];omega
  have c0:(0:Int)≤((k - 1:Nat):Int):=by omega
  have c1:((k - 1:Nat):Int) < ((l.length:Nat):Int):=by omega
  by_cases h32:x=32
  ·simp +decide only [go_sem,WR,WS,hsz,e0,e3,e4,h0,i1,c0,c1,Int.toNat_natCast,q3,q4,h32]
   refine next (k - 1) _ _ ⟨by omega,by omega,by simp +decide only [go_sem,hsz],rfl,by simp +decide only [go_sem,hsz,e0],by simp +decide only [go_sem,hsz,e3],by simp +decide only [go_sem,hsz],?_⟩ (by omega)
   have hd:l.drop (k - 1)=x::l.drop k:=by
    obtain ⟨g1,g2⟩:=List.getElem?_eq_some_iff.1 hx
    rw [List.drop_eq_getElem_cons g1,g2]
    congr 2
    omega
   rw [hd,List.all_cons,hall]
   simp [isB,h32]
  ·simp +decide only [go_sem,WR,WS,hsz,e0,e3,e4,h0,i1,c0,c1,Int.toNat_natCast,q3,q4,h32,f1]
   rw [fin fun _ c hc=>by rw [hx] at hc;cases hc;simp [isB,h32]]
   exact tk'
 ·simp +decide only [go_sem,WR,WS,hsz,e0,e3,e4,h0,f1]
  rw [fin fun hh=>absurd hh (by omega)]
  exact tk'
end Go.Proofs.YtachkofbmodnnaaGreatDoor.E2
namespace Go.Im.Defn
open Go Go.Im Go.Im.Lexing Go.Im.Heads Go.Im.Editing
theorem lex_512 {l:List Int} {ts:List (Nat × Tk)} (h:lex l=some ts):l.length≤512:=by
 unfold lex at h
 split at h
 ·cases h
 ·omega
def runesL (s:ByteArray):Nat→Nat→List Int
 | 0,_=>[]
 | f+1,i=>if i < s.size then ((Utf8.decode s i).1:Int)::runesL s f (i+(Utf8.decode s i).2) else []
def runesI (s:ByteArray):List Int:=runesL s s.size 0
theorem runesFrom_eq (s:ByteArray):∀ (f i:Nat) (acc:Array Value),Conv.runesFrom s f i acc=acc++(rv (runesL s f i)).toArray
 | 0,i,acc=>by simp [Conv.runesFrom,runesL,rv,intCells]
 | f+1,i,acc=>by
   rw [Conv.runesFrom,runesL]
   by_cases h:i < s.size
   ·rw [if_pos h,if_pos h]
    simp only
    rw [runesFrom_eq s f]
    simp [rv,intCells]
   ·rw [if_neg h,if_neg h]
    simp [rv,intCells]
theorem runesL_len (s:ByteArray):∀ (f i:Nat),(runesL s f i).length≤f
 | 0,i=>by simp [runesL]
 | f+1,i=>by
   rw [runesL]
   split
   ·have:=runesL_len s f (i+(Utf8.decode s i).2)
    simp only [List.length_cons]
    omega
   ·simp
theorem runesI_len (s:ByteArray):(runesI s).length≤s.size:=runesL_len s s.size 0
theorem runes_all (s:ByteArray):(Conv.runesFrom s s.size 0 #[]).toList=rv (runesI s):=by
 rw [runesFrom_eq]
 simp [runesI]
theorem icvt_all {l:List UInt8} {h:Heap}:icvt (some .i32) l h=some (.slice (some ⟨h.size,0,none⟩) (runesI (text l)).length big,h.push (.cells (rv (runesI (text l))) 1)):=by
 simp only [icvt,runes_all,rv_length]
instance memB (s:ByteArray) (l:List ByteArray):Decidable (s ∈ l):= @List.instDecidableMemOfLawfulBEq _ instBEqOfDecidableEq _ s l
structure DefT where
 hd:HdT
 lines:List ByteArray
 labels:List (ByteArray × Nat)
def dZ:DefT:=⟨hdZ,[],[]⟩
def linesS (x:HdT):List ByteArray→Nat→List ByteArray→List (ByteArray × Nat)→List ByteArray→DefT × Int
 | [],_,ls,lb,_=>(⟨x,ls,lb⟩, -1)
 | r::rs,i,ls,lb,tk =>
   if (lex (trimS (runesI r))).isNone=true∨200 < i then (dZ,(i:Int))
   else if (labelL (trimS (runesI r))).1=E then linesS x rs (i+1) (ls++[runesBytes (trimS (runesI r))]) lb tk
   else if (labelL (trimS (runesI r))).1 ∈ tk then (dZ,(i:Int))
   else linesS x rs (i+1) (ls++[runesBytes (trimS (runesI r))]) (lb++[((labelL (trimS (runesI r))).1,i)]) (tk++[(labelL (trimS (runesI r))).1])
def makeS:List ByteArray→DefT × Int
 | []=>(dZ,0)
 | r::rs=>if (hdp (runesI r)).2=true then linesS (hdp (runesI r)).1 rs 1 [] [] (hdp (runesI r)).1.all else (dZ,0)
theorem lines_bad {x:HdT} {r:ByteArray} {rs:List ByteArray} {i:Nat} {ls:List ByteArray} {lb:List (ByteArray × Nat)} {tk:List ByteArray} (h:(lex (trimS (runesI r))).isNone=true∨200 < i):linesS x (r::rs) i ls lb tk=(dZ,(i:Int)):=by
 rw [linesS,if_pos h]
theorem lines_none {x:HdT} {r:ByteArray} {rs:List ByteArray} {i:Nat} {ls:List ByteArray} {lb:List (ByteArray × Nat)} {tk:List ByteArray} (h:¬ ((lex (trimS (runesI r))).isNone=true∨200 < i)) (h2:(labelL (trimS (runesI r))).1=E) :
  linesS x (r::rs) i ls lb tk=linesS x rs (i+1) (ls++[runesBytes (trimS (runesI r))]) lb tk:=by
 rw [linesS,if_neg h,if_pos h2]
theorem lines_twice {x:HdT} {r:ByteArray} {rs:List ByteArray} {i:Nat} {ls:List ByteArray} {lb:List (ByteArray × Nat)} {tk:List ByteArray} (h:¬ ((lex (trimS (runesI r))).isNone=true∨200 < i)) (h2:¬ (labelL (trimS (runesI r))).1=E) (h3:(labelL (trimS (runesI r))).1 ∈ tk) :
  linesS x (r::rs) i ls lb tk=(dZ,(i:Int)):=by
 rw [linesS,if_neg h,if_neg h2,if_pos h3]
theorem lines_more {x:HdT} {r:ByteArray} {rs:List ByteArray} {i:Nat} {ls:List ByteArray} {lb:List (ByteArray × Nat)} {tk:List ByteArray} (h:¬ ((lex (trimS (runesI r))).isNone=true∨200 < i)) (h2:¬ (labelL (trimS (runesI r))).1=E) (h3:¬ (labelL (trimS (runesI r))).1 ∈ tk) :
  linesS x (r::rs) i ls lb tk=linesS x rs (i+1) (ls++[runesBytes (trimS (runesI r))]) (lb++[((labelL (trimS (runesI r))).1,i)]) (tk++[(labelL (trimS (runesI r))).1]):=by
 rw [linesS,if_neg h,if_neg h2,if_neg h3]
def lbv (lb:List (ByteArray × Nat)):List Value:=lb.flatMap fun p=>[Value.string p.1,Value.int .i64 (p.2:Int)]
theorem lbv_append (a b:List (ByteArray × Nat)):lbv (a++b)=lbv a++lbv b:=by simp [lbv]
theorem lbv_length (a:List (ByteArray × Nat)):(lbv a).length=a.length*2:=by
 induction a with
 | nil=>rfl
 | cons p a ih =>
   simp only [lbv,List.flatMap_cons,List.length_append,List.length_cons,List.length_nil] at ih ⊢
   omega
def dl (x:HdT) (hv lv bv:Value):List Value:=[.string x.nm,.string x.re,.string x.le,.string x.ri,hv,lv,bv]
def DV (w:Heap) (v:Value) (d:DefT):Prop:=∃ a c a1 c1 a2 c2,v= .agg (dl d.hd (.slice a d.hd.ls.length c) (.slice a1 d.lines.length c1) (.slice a2 d.labels.length c2)).toArray ∧
 Sl w 1 a d.hd.ls.length c (sv d.hd.ls)∧Sl w 1 a1 d.lines.length c1 (sv d.lines)∧Sl w 2 a2 d.labels.length c2 (lbv d.labels)
theorem DV.ext {w w':Heap} (k:Ext w w') {v:Value} {d:DefT} (H:DV w v d):DV w' v d:=by
 obtain ⟨a,c,a1,c1,a2,c2,h1,h2,h3,h4⟩:=H
 exact ⟨a,c,a1,c1,a2,c2,h1,h2.ext k,h3.ext k,h4.ext k⟩
theorem DV.zero (w:Heap):DV w (.agg (dl hdZ (.slice none 0 0) (.slice none 0 0) (.slice none 0 0)).toArray) dZ :=
 ⟨none,0,none,0,none,0,rfl,Sl.nil _ _,Sl.nil _ _,Sl.nil _ _⟩
theorem own_lh {low:Nat} {h:Heap} {size n b:Nat} {v:Value} {xs:List Value} (H:Own low h size v n xs) (hv:vblk v=some b):low≤b∧b < h.size:=by
 rcases H with ⟨rfl,_⟩ | ⟨b',rfl,h1,h2,_⟩
 ·simp [vblk] at hv
 ·simp only [vblk,Option.some.injEq] at hv
  omega
theorem app_other {low:Nat} {B W:Heap} (hlow:low≤B.size) (x:Ext B W) {size bytes:Nat} {v:Value} {n k:Nat} {xs new:List Value} (H:Own B.size W size v n xs) (hs:0 < size) (hk:0 < k) (hn:new.length=k*size)
  (hb:2*(n+k)*bytes≤140737488355328) (hc:n+k≤4611686018427387904) :
  ∃ w',iapp low W size bytes v k (some new)=some (.slice (some ⟨W.size,0,none⟩) (n+k) big,w')∧Own B.size w' size (.slice (some ⟨W.size,0,none⟩) (n+k) big) (n+k) (xs++new)∧w'.size=W.size+1∧Ext B w'∧∀ b,b < W.size→vblk v≠some b→w'.get b=W.get b:=by
 obtain ⟨w',h1,h2,h3,h4⟩:=own_app (H.keep hlow fun b hb _=>⟨rfl,hb⟩) (Nat.le_trans hlow x.1) hs hk hn hb hc
 refine ⟨w',h1,?_,h3,⟨by have:=x.1;omega,fun b hb=> ?_⟩,h4⟩
 ·rcases h2 with ⟨h5,_⟩ | ⟨b,h5,_,h6,h7,h8⟩
  ·cases h5
  ·cases h5
   exact .inr ⟨W.size,rfl,x.1,h6,h7,h8⟩
 ·rw [h4 b (by have:=x.1;omega),x.2 b hb]
  intro hv
  have:=(own_lh H hv).1
  omega
def RK (w w':Heap):Prop:=w.size≤w'.size∧∀ b,b < w.size→(∃ (cs:List Value) (i:Nat) (n:Int),(w.get b).read= .cells cs 1∧cs[i]? =some (Value.int .i32 n))→w'.get b=w.get b
theorem RK.of {w w':Heap} (k:Ext w w'):RK w w':=⟨k.1,fun b hb _=>k.2 b hb⟩
theorem RK.trans {w w' w'':Heap} (h:RK w w') (k:RK w' w''):RK w w'' :=
 ⟨Nat.le_trans h.1 k.1,fun b hb hc=>by
   have e:=h.2 b hb hc
   rw [k.2 b (by have:=h.1;omega) (by rw [e];exact hc),e]⟩
theorem sv_no {ls:List ByteArray} {i:Nat} {n:Int} (h:(sv ls)[i]? =some (.int .i32 n)):False:=by
 rw [sv,List.getElem?_map] at h
 cases hl:ls[i]? <;>simp [hl] at h
theorem RK.own {low:Nat} {w w':Heap} {v:Value} {ls:List ByteArray} (H:Own low w 1 v ls.length (sv ls)) (hs:w.size≤w'.size) (k:∀ b,b < w.size→vblk v≠some b→w'.get b=w.get b):RK w w' :=
 ⟨hs,fun b hb ⟨cs,i,n,h1,h2⟩=>k b hb fun hv=>by
   rcases H with ⟨rfl,_⟩ | ⟨b',rfl,_,_,h3,_⟩
   ·simp [vblk] at hv
   ·simp only [vblk,Option.some.injEq] at hv
    subst hv
    rw [h3] at h1
    cases h1
    exact sv_no h2⟩
theorem RK.other {low e:Nat} {w w':Heap} {v:Value} {n:Nat} {xs:List Value} (H:Own low w e v n xs) (he:e≠1) (hs:w.size≤w'.size) (k:∀ b,b < w.size→vblk v≠some b→w'.get b=w.get b):RK w w' :=
 ⟨hs,fun b hb ⟨cs,i,n,h1,h2⟩=>k b hb fun hv=>by
   rcases H with ⟨rfl,_⟩ | ⟨b',rfl,_,_,h3,_⟩
   ·simp [vblk] at hv
   ·simp only [vblk,Option.some.injEq] at hv
    subst hv
    rw [h3] at h1
    simp only [Blk.read,Blk.cells.injEq] at h1
    exact he h1.2⟩
theorem RK.put {w:Heap} {q e:Nat} {C:List Value} {y:Blk} (hg:w.get q= .cells C e) (he:e≠1):RK w (w.set q y) :=
 ⟨by simp,fun b hb ⟨cs,i,n,h1,h2⟩=>by
   rw [Heap.get_set,if_neg]
   intro hh
   subst hh
   rw [hg] at h1
   simp only [Blk.read,Blk.cells.injEq] at h1
   exact he h1.2⟩
theorem RK.islice {w w':Heap} (k:RK w w') {a:Option Addr} {n c:Nat} {l:List Int} (t:Ln w (.slice a n c) l):Im.islice w' 1 (.slice a n c)=some (rv l):=by
 have t0:=t
 rcases t with ⟨rfl,hv | ⟨b,o,hv⟩⟩ | ⟨b,o,cs,hv,h2,h3,h4,h5⟩
 ·cases hv
  rfl
 ·cases hv
  simp only [Im.islice,rv,intCells,List.map_nil]
  split<;>simp
 ·by_cases h0:l=[]
  ·subst h0
   cases hv
   simp only [Im.islice,List.length_nil,rv,intCells,List.map_nil,Nat.zero_mul,Nat.add_zero,List.take_zero]
   split
   ·split<;>simp
   ·simp
  ·cases hv
   obtain ⟨x,hx⟩:∃ x,l[0]? =some x:=⟨_,List.getElem?_eq_getElem (List.length_pos_iff.2 h0)⟩
   have h6:=rv_get hx
   rw [h5,List.getElem?_take,if_pos (List.length_pos_iff.2 h0),List.getElem?_drop] at h6
   have e:=k.2 b h2 ⟨cs,_,_,h3,h6⟩
   simp only [Im.islice,Heap.look,e,h3]
   rw [if_pos ⟨trivial,by omega⟩,h5,Nat.mul_one]
theorem sl_put {w w':Heap} {size q e n c:Nat} {a:Option Addr} {C xs:List Value} {y:Blk} (s:Sl w size a n c xs) (hg:w.get q= .cells C e) (he:e≠size) (hw:w.set q y=w'):Sl w' size a n c xs:=by
 rcases s with h1 | h1 | ⟨b,o,cs,h1,h2,h3,h4,h5⟩
 ·exact .inl h1
 ·exact .inr (.inl h1)
 ·refine .inr (.inr ⟨b,o,cs,h1,h2,by rw [← hw];exact h3,?_,h5⟩)
  rw [← hw,Heap.get_set,if_neg]
  ·exact h4
  ·intro hh
   subst hh
   rw [hg] at h4
   simp only [Blk.read,Blk.cells.injEq] at h4
   exact he h4.2
theorem DV.put {w w':Heap} {q:Nat} {C:List Value} {y:Blk} {v:Value} {d:DefT} (H:DV w v d) (hg:w.get q= .cells C 7) (hw:w.set q y=w'):DV w' v d:=by
 obtain ⟨a,c,a1,c1,a2,c2,h1,h2,h3,h4⟩:=H
 exact ⟨a,c,a1,c1,a2,c2,h1,sl_put h2 hg (by omega) hw,sl_put h3 hg (by omega) hw,sl_put h4 hg (by omega) hw⟩
structure DS (B:Heap) (q:Nat) (W:Heap) (x:HdT) (hv lv bv tv:Value) (ls:List ByteArray) (lb:List (ByteArray × Nat)) (tk:List ByteArray):Prop where
 ext:Ext B W
 lq:B.size≤q
 hq:q < W.size
 g:W.get q= .cells (dl x hv lv bv) 7
 ol:Own B.size W 1 lv ls.length (sv ls)
 ob:Own B.size W 2 bv lb.length (lbv lb)
 ot:Own B.size W 1 tv tk.length (sv tk)
 dj:∀ b,vblk lv=some b→vblk tv≠some b
theorem DS.more {B:Heap} {q:Nat} {W W':Heap} {x:HdT} {hv lv bv tv:Value} {ls:List ByteArray} {lb:List (ByteArray × Nat)} {tk:List ByteArray} (S:DS B q W x hv lv bv tv ls lb tk) (k:Ext W W'):DS B q W' x hv lv bv tv ls lb tk :=
 ⟨S.ext.trans k,S.lq,by have:=S.hq;have:=k.1;omega,(k.2 _ S.hq).trans S.g,S.ol.ext k,S.ob.ext k,S.ot.ext k,S.dj⟩
theorem ne_size {low:Nat} {h:Heap} {s1 s2 n m b:Nat} {v u:Value} {xs ys:List Value} (H:Own low h s1 v n xs) (K:Own low h s2 u m ys) (hs:s1≠s2) (hv:vblk v=some b):vblk u≠some b:=by
 rcases H with ⟨rfl,_⟩ | ⟨b',rfl,_,_,h3,_⟩
 ·simp [vblk] at hv
 ·simp only [vblk,Option.some.injEq] at hv
  subst hv
  exact K.ne h3 hs
theorem DS.take {B:Heap} {q:Nat} {W:Heap} {x:HdT} {hv lv bv tv:Value} {ls:List ByteArray} {lb:List (ByteArray × Nat)} {tk:List ByteArray} (S:DS B q W x hv lv bv tv ls lb tk) {low:Nat} (hlow:low≤B.size) (s:ByteArray) (hn:tk.length≤100000) :
  ∃ w1 w2:Heap,W.push (.cells [.string s] 1)=w1∧w1.get W.size= .cells [.string s] 1∧iapp low w1 1 16 tv 1 (some [.string s])=some (.slice (some ⟨w1.size,0,none⟩) (tk.length+1) big,w2) ∧
    DS B q w2 x hv lv bv (.slice (some ⟨w1.size,0,none⟩) (tk.length+1) big) ls lb (tk++[s])∧RK W w2:=by
 obtain ⟨w1,e1,x1,hs1,z1⟩:=lay1 W (.cells [.string s] 1)
 have S1:=S.more x1
 obtain ⟨w2,e2,o2,hs2,x2,k2⟩:=app_other (bytes:=16) (k:=1) (new:=[.string s]) hlow S1.ext S1.ot (by omega) (by omega) rfl (by omega) (by omega)
 have hq1:=S1.hq
 refine ⟨w1,w2,e1,z1,e2,⟨x2,S1.lq,by omega,(k2 q hq1 (S1.ot.ne S1.g (by omega))).trans S1.g,?_,?_,?_,?_⟩,(RK.of x1).trans (RK.own S1.ot (by omega) k2)⟩
 ·exact S1.ol.keep (Nat.le_refl _) fun b hb hv=>⟨k2 b hb (S1.dj b hv),by omega⟩
 ·exact S1.ob.keep (Nat.le_refl _) fun b hb hv=>⟨k2 b hb (ne_size S1.ob S1.ot (by omega) hv),by omega⟩
 ·rw [List.length_append,sv_append]
  exact o2
 ·intro b hb
  have:=(own_lh S1.ol hb).2
  simp only [vblk,ne_eq,Option.some.injEq]
  omega
theorem own_put {low:Nat} {h w:Heap} {size n q e:Nat} {v:Value} {xs C:List Value} {y:Blk} (H:Own low h size v n xs) (hg:h.get q= .cells C e) (he:e≠size) (hw:h.set q y=w):Own low w size v n xs :=
 H.keep (Nat.le_refl _) fun b hb hv=>⟨by rw [← hw,Heap.get_set,if_neg];intro hh;subst hh;exact H.ne hg he hv,by rw [← hw];exact hb⟩
theorem put_ext {B W w:Heap} {q:Nat} {y:Blk} (x:Ext B W) (hq:B.size≤q) (hw:W.set q y=w):Ext B w:=by
 rw [← hw]
 exact x.set hq y
theorem DS.line {B:Heap} {q:Nat} {W:Heap} {x:HdT} {hv lv bv tv:Value} {ls:List ByteArray} {lb:List (ByteArray × Nat)} {tk:List ByteArray} (S:DS B q W x hv lv bv tv ls lb tk) {low:Nat} (hlow:low≤B.size) (s:ByteArray) (hn:ls.length≤100000) :
  ∃ w1 w2 w3:Heap,W.push (.cells [.string s] 1)=w1∧w1.get W.size= .cells [.string s] 1∧iapp low w1 1 16 lv 1 (some [.string s])=some (.slice (some ⟨w1.size,0,none⟩) (ls.length+1) big,w2)∧w2.get q= .cells (dl x hv lv bv) 7 ∧
    w2.set q (.cells (dl x hv (.slice (some ⟨w1.size,0,none⟩) (ls.length+1) big) bv) 7)=w3∧DS B q w3 x hv (.slice (some ⟨w1.size,0,none⟩) (ls.length+1) big) bv tv (ls++[s]) lb tk:=by
 obtain ⟨w1,e1,x1,hs1,z1⟩:=lay1 W (.cells [.string s] 1)
 have S1:=S.more x1
 obtain ⟨w2,e2,o2,hs2,x2,k2⟩:=app_other (bytes:=16) (k:=1) (new:=[.string s]) hlow S1.ext S1.ol (by omega) (by omega) rfl (by omega) (by omega)
 have hq1:=S1.hq
 have g2:w2.get q=_:=(k2 q hq1 (S1.ol.ne S1.g (by omega))).trans S1.g
 have ob2:Own B.size w2 2 bv lb.length (lbv lb):=S1.ob.keep (Nat.le_refl _) fun b hb hv=>⟨k2 b hb (ne_size S1.ob S1.ol (by omega) hv),by omega⟩
 have ot2:Own B.size w2 1 tv tk.length (sv tk):=S1.ot.keep (Nat.le_refl _) fun b hb hv=>⟨k2 b hb (fun hh=>S1.dj b hh hv),by omega⟩
 refine ⟨w1,w2,_,e1,z1,e2,g2,rfl,put_ext x2 S1.lq rfl,S1.lq,by simp;omega,by rw [Heap.get_set,if_pos rfl],?_,own_put ob2 g2 (by omega) rfl,own_put ot2 g2 (by omega) rfl,?_⟩
 ·rw [List.length_append,sv_append]
  exact own_put o2 g2 (by omega) rfl
 ·intro b hb hv
  have:=(own_lh S1.ot hv).2
  simp only [vblk,Option.some.injEq] at hb
  omega
theorem DS.label {B:Heap} {q:Nat} {W:Heap} {x:HdT} {hv lv bv tv:Value} {ls:List ByteArray} {lb:List (ByteArray × Nat)} {tk:List ByteArray} (S:DS B q W x hv lv bv tv ls lb tk) {low:Nat} (hlow:low≤B.size) (s:ByteArray) (i:Nat) (hn:lb.length≤100000) :
  ∃ w1 w2 w3:Heap,W.push (.cells [.string s,.int .i64 (i:Int)] 2)=w1∧w1.get W.size= .cells [.string s,.int .i64 (i:Int)] 2∧iapp low w1 2 24 bv 1 (some [.string s,.int .i64 (i:Int)])=some (.slice (some ⟨w1.size,0,none⟩) (lb.length+1) big,w2)∧w2.get q= .cells (dl x hv lv bv) 7 ∧
    w2.set q (.cells (dl x hv lv (.slice (some ⟨w1.size,0,none⟩) (lb.length+1) big)) 7)=w3∧DS B q w3 x hv lv (.slice (some ⟨w1.size,0,none⟩) (lb.length+1) big) tv ls (lb++[(s,i)]) tk∧RK W w3:=by
 obtain ⟨w1,e1,x1,hs1,z1⟩:=lay1 W (.cells [.string s,.int .i64 (i:Int)] 2)
 have S1:=S.more x1
 obtain ⟨w2,e2,o2,hs2,x2,k2⟩:=app_other (bytes:=24) (k:=1) (new:=[.string s,.int .i64 (i:Int)]) hlow S1.ext S1.ob (by omega) (by omega) rfl (by omega) (by omega)
 have hq1:=S1.hq
 have g2:w2.get q=_:=(k2 q hq1 (S1.ob.ne S1.g (by omega))).trans S1.g
 have ol2:Own B.size w2 1 lv ls.length (sv ls):=S1.ol.keep (Nat.le_refl _) fun b hb hv=>⟨k2 b hb (ne_size S1.ol S1.ob (by omega) hv),by omega⟩
 have ot2:Own B.size w2 1 tv tk.length (sv tk):=S1.ot.keep (Nat.le_refl _) fun b hb hv=>⟨k2 b hb (ne_size S1.ot S1.ob (by omega) hv),by omega⟩
 refine ⟨w1,w2,_,e1,z1,e2,g2,rfl,⟨put_ext x2 S1.lq rfl,S1.lq,by simp;omega,by rw [Heap.get_set,if_pos rfl],own_put ol2 g2 (by omega) rfl,?_,own_put ot2 g2 (by omega) rfl,S1.dj⟩,((RK.of x1).trans (RK.other S1.ob (by omega) (by omega) k2)).trans (RK.put g2 (by omega))⟩
 rw [List.length_append,lbv_append]
 exact own_put o2 g2 (by omega) rfl
theorem DS.value {B:Heap} {q:Nat} {W:Heap} {x:HdT} {a:Option Addr} {c:Nat} {lv bv tv:Value} {ls:List ByteArray} {lb:List (ByteArray × Nat)} {tk:List ByteArray} (S:DS B q W x (.slice a x.ls.length c) lv bv tv ls lb tk) (s:Sl B 1 a x.ls.length c (sv x.ls)) :
  DV W (.agg (dl x (.slice a x.ls.length c) lv bv).toArray) ⟨x,ls,lb⟩:=by
 obtain ⟨a1,c1,rfl⟩:=S.ol.shape
 obtain ⟨a2,c2,rfl⟩:=S.ob.shape
 exact ⟨a,c,a1,c1,a2,c2,rfl,s.ext S.ext,S.ol.sl,S.ob.sl⟩
end Go.Im.Defn
