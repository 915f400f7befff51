/- Proved here: parts of the way to BDefnChars (BN23 BN24 BN25 BN26 BP1 BP2); no condition beyond those that each theorem names. -/
import Derived.Test.YtachkofbmodnnaaGreatDoorU13
set_option linter.unusedSimpArgs false
set_option linter.unusedVariables false
namespace Go.Proofs.YtachkofbmodnnaaGreatDoor.N23
open Go Go.Im Go.Im.Limbs Go.Im.Lexing Go.Proofs Go.RowKit Hd N1 N15 N16 N17 N18 N19 N20 N21 N22
set_option maxRecDepth 100000
def Step (low:Nat) (xb:Nat) (tv:Value) (l:List Int) (at':Nat) (xs:List XT) (v:Value) (h':Heap):Prop:=(tokS (l.drop at')=none∧v= .bool false)∨(∃ k,tokS (l.drop at')=some (none,k)∧v= .bool true∧at' < at'+k∧at'+k≤l.length∧LX low h' xb tv (at'+k) xs) ∨
 ∃ tk k rest,tokS (l.drop at')=some (some tk,k)∧v= .bool true∧Arr5 rest∧at' < at'+k∧at'+k≤l.length∧LX low h' xb tv (at'+k) (xs++[((at',tk),rest)])
def quadS (l:List Int) (i:Nat) (c:Int):Bool:=decide (c=9109) && (match l[i+1]? with
 | some d=>decide (kindOf d=2)
 | none=>false)
theorem tokS_at {l:List Int} {i:Nat} {c:Int} (h:l[i]? =some c):tokS (l.drop i)=if kindOf c=1 then some (none,1)
  else if begins (l.drop i) then (numsF 600 (l.drop i)).map fun x=>(some ⟨1,[],0⟩,x.2)
  else if kindOf c=2 then (wordS 2 (l.drop i)).map fun x=>(some x.1,x.2)
  else if c=39 then (textF (l.drop (i+1))).map fun k=>(some ⟨1,[],0⟩,1+k)
  else if quadS l i c=true then (wordS 3 (l.drop (i+1))).map fun x=>(some x.1,1+x.2)
  else if kindOf c=4∨kindOf c=5 then some (some ⟨4,[],c⟩,1)
  else if kindOf c=6 then some (some ⟨5,[],c⟩,1)
  else if kindOf c=7 then some (some ⟨6,[],c⟩,1)
  else none:=by
 have e0:(l.drop i)[0]? =some c:=by rw [List.getElem?_drop];exact h
 have e1:(l.drop i)[1]? =l[i+1]? :=by rw [List.getElem?_drop]
 have e2:(l.drop i).drop 1=l.drop (i+1):=by rw [List.drop_drop]
 unfold tokS
 rw [e0]
 simp only [e1,e2,quadS,Bool.and_eq_true,decide_eq_true_eq]
 congr
theorem next_does {h0 h:Heap} (x:Ext h0 h) {l:List Int} {tv:Value} (t:Tx h0 tv l) (hm:l.length≤512) {xb at':Nat} {xs:List XT} (L:LX h0.size h xb tv at' xs) (hat:at' < l.length) :
  Does K h0.size 81 #[.pointer (some ⟨xb,0,none⟩)] h fun v h'=>Step h0.size xb tv l at' xs v h':=by
 have t':=t
 rcases t with ⟨rfl,_⟩ | ⟨b,o,cs,rfl,hb,hgb,hol,hcs⟩
 ·simp at hat
 have hne:l≠[]:=by
  rintro rfl
  simp at hat
 have L':=L
 obtain ⟨hl,hxb,hbd,hall,ov,hg,own,hv⟩:=L
 obtain ⟨c,hc⟩:∃ c,l[at']? =some c:=⟨_,List.getElem?_eq_getElem hat⟩
 have htok:=tokS_at hc
 refine Does.intro rfl (by decide +kernel) Tryz.func81 rfl ?_
 have k1:=x.1
 have i0:(0:Int)≤(at':Int):=by omega
 have i1:IntKind.i64.wrap ((at':Int)+1)=((at'+1:Nat):Int):=by rw [wrap_i64 (by omega) (by omega)];omega
 have il:(at':Int) < ((l.length:Nat):Int):=by omega
 obtain ⟨b',o',cs',q1,q2,q3,q4⟩:=(t'.ext x).one hc
 cases q1
 simp +decide only [go_sem,WR,WS,hg,il,i0,Int.toNat_natCast,Nat.mul_one,q3,q4]
 refine W_call Kok k1 (kind_run c h) fun r w1 x1 hr=> ?_
 subst hr
 have x01:=x.trans x1
 have hg1:w1.get xb=_:=(x1.2 _ hxb).trans hg
 by_cases h1:kindOf c=1
 ·rw [if_pos h1] at htok
  have h1':((kindOf c:Nat):Int)=1:=by omega
  obtain ⟨w2,e2,x2,hs2,g2,k2⟩:=put1 x01 hl (.cells [.slice (some ⟨b,o,none⟩) l.length big,.int .i64 ((at'+1:Nat):Int),ov] 3)
  simp +decide only [go_sem,WR,WS,h1',hg1,i1,hl,e2]
  refine .inr (.inl ⟨1,htok,rfl,by omega,by omega,hl,by have:=x1.1;omega,by omega,hall,ov,g2,?_,hv⟩)
  refine (own.ext x1).keep (Nat.le_refl _) fun q hq hvq=> ?_
  have:q≠xb:=by
   rintro rfl
   exact hv hvq
  exact ⟨k2 q this,by omega⟩
 rw [if_neg h1] at htok
 have h1':¬ ((kindOf c:Nat):Int)=1:=by omega
 simp +decide only [go_sem,WR,WS,h1',hg1]
 refine W_call Kok x01.1 (begins_run l at' w1 (t'.ext x01) (by omega) (by omega)) fun r w2 x2 hr=> ?_
 subst hr
 have x02:=x01.trans x2
 have x12:=x1.trans x2
 have hg2:w2.get xb=_:=(x12.2 _ hxb).trans hg
 have L2:=L'.ext x12
 cases hbg:begins (l.drop at') with
 | true =>
   rw [if_pos hbg] at htok
   simp +decide only [go_sem,WR,WS]
   refine W_does rfl (numbers_does x02 t' hm L2 hat hbg) fun r w3 hr=> ?_
   simp +decide only [go_sem,WR,WS]
   rcases hr with ⟨hn,rfl⟩ | ⟨n,m,rest,hn,rfl,ha,hm1,hm2,hL⟩
   ·exact .inl ⟨by rw [htok,hn];rfl,rfl⟩
   ·exact .inr (.inr ⟨_,_,_,by rw [htok,hn];rfl,rfl,ha,hm1,hm2,hL⟩)
 | false =>
 rw [if_neg (by rw [hbg];simp)] at htok
 by_cases h2:kindOf c=2
 ·rw [if_pos h2] at htok
  have h2':((kindOf c:Nat):Int)=2:=by omega
  simp +decide only [go_sem,WR,WS,h2',hg2]
  refine W_does rfl (word_does x02 t' hne hm L2 (i:=at') (k:=2) (by omega) (Nat.le_refl _)) fun r w3 hr=> ?_
  simp +decide only [go_sem,WR,WS]
  rcases hr with ⟨hn,rfl⟩ | ⟨tk,m,rest,hn,rfl,ha,hm1,hm2,hL⟩
  ·exact .inl ⟨by rw [htok,hn];rfl,rfl⟩
  ·exact .inr (.inr ⟨_,_,_,by rw [htok,hn];rfl,rfl,ha,hm1,hm2,hL⟩)
 rw [if_neg h2] at htok
 have h2':¬ ((kindOf c:Nat):Int)=2:=by omega
 by_cases h39:c=39
 ·rw [if_pos h39] at htok
  simp +decide only [go_sem,WR,WS,h2',h39]
  refine W_does rfl (text_does x02 t' hm L2 hat) fun r w3 hr=> ?_
  simp +decide only [go_sem,WR,WS]
  rcases hr with ⟨hn,rfl⟩ | ⟨m,rest,hn,rfl,ha,hm1,hm2,hL⟩
  ·exact .inl ⟨by rw [htok,hn];rfl,rfl⟩
  ·exact .inr (.inr ⟨_,1+m,_,by rw [htok,hn];rfl,rfl,ha,by omega,by omega,by rw [← Nat.add_assoc];exact hL⟩)
 rw [if_neg h39] at htok
 simp +decide only [go_sem,WS,h2',h39]
 (rw [WR];simp +decide only [go_sem,WS,h2',h39])
 (rw [WR];simp +decide only [go_sem,WS,h2',h39])
 refine W_cut (J:=fun e w=>e.size=131∧e.get 0= .pointer (some ⟨xb,0,none⟩)∧e.get 3= .int .i32 c∧e.get 4= .int .i64 ((kindOf c:Nat):Int)∧e.get 53= .bool (quadS l at' c)∧Ext h w) (by simp only [straight,KD];rfl) ?_ ?_
 ·by_cases hq:c=9109
  case neg =>
   have:quadS l at' c=false:=by simp [quadS,hq]
   simp +decide only [go_sem,WR,WS,hq,this]
   exact x12
  by_cases hl2:((at'+1:Nat):Int) < ((l.length:Nat):Int)
  case neg =>
   have:quadS l at' c=false:=by
    unfold quadS
    rw [List.getElem?_eq_none (by omega)]
    simp
   simp +decide only [go_sem,WR,WS,hq,hg2,i1,hl2]
   rw [hq] at this
   exact ⟨by rw [this],x12⟩
  obtain ⟨d,hd⟩:∃ d,l[at'+1]? =some d:=⟨_,List.getElem?_eq_getElem (by omega)⟩
  have hqd:quadS l at' c=decide (kindOf d=2):=by simp [quadS,hq,hd]
  have i2:(0:Int)≤((at'+1:Nat):Int):=by omega
  obtain ⟨b2,o2,cs2,p1,p2,p3,p4⟩:=(t'.ext x02).one hd
  cases p1
  simp +decide only [go_sem,WR,WS,hq,hg2,i1,i2,hl2,Int.toNat_natCast,Nat.mul_one,p3,p4]
  refine W_call Kok x02.1 (kind_run d w2) fun r w3 x3 hr=> ?_
  subst hr
  rw [hq] at hqd
  by_cases hk:kindOf d=2
  ·have hk':((kindOf d:Nat):Int)=2:=by omega
   simp +decide only [go_sem,WR,WS,hk']
   exact ⟨by rw [hqd,hk];rfl,x12.trans x3⟩
  ·have hk':¬ ((kindOf d:Nat):Int)=2:=by omega
   simp +decide only [go_sem,WR,WS,hk']
   exact ⟨by rw [hqd];simp [hk],x12.trans x3⟩
 rintro e w ⟨hsz,e0,e3,e4,e53,hxw⟩
 have x0w:=x.trans hxw
 have hgw:w.get xb=_:=(hxw.2 _ hxb).trans hg
 have Lw:=L'.ext hxw
 cases hqd:quadS l at' c with
 | true =>
   rw [hqd] at e53
   rw [if_pos hqd] at htok
   have hlt:at'+1≤l.length:=hat
   simp +decide only [go_sem,WR,WS,hsz,e0,e3,e4,e53,hgw,i1]
   refine W_does rfl (word_does x0w t' hne hm Lw (i:=at'+1) (k:=3) hlt (by omega)) fun r w3 hr=> ?_
   simp +decide only [go_sem,WR,WS,hsz]
   rcases hr with ⟨hn,rfl⟩ | ⟨tk,m,rest,hn,rfl,ha,hm1,hm2,hL⟩
   ·exact .inl ⟨by rw [htok,hn];rfl,rfl⟩
   ·exact .inr (.inr ⟨_,1+m,_,by rw [htok,hn];rfl,rfl,ha,by omega,by omega,by rw [← Nat.add_assoc];exact hL⟩)
 | false =>
 rw [hqd] at e53
 rw [if_neg (by rw [hqd];simp)] at htok
 have fin:∀ {k:Nat} {w':Heap} {r:Value},tokS (l.drop at')=some (some ⟨k,[],c⟩,1)→(r= .bool true∧LX h0.size w' xb (.slice (some ⟨b,o,none⟩) l.length big) (at'+1) (xs++[((at',⟨k,[],c⟩),[.slice none 0 0,.bool false,.slice none 0 0,.slice none 0 0,.bool false])]))→Step h0.size xb (.slice (some ⟨b,o,none⟩) l.length big) l at' xs r w' :=
  fun ht ⟨h1,h2⟩=> .inr (.inr ⟨_,1,_,ht,h1,⟨_,_,_,_,_,_,_,_,_,_,_,rfl⟩,by omega,by omega,h2⟩)
 by_cases h4:kindOf c=4
 ·rw [if_pos (.inl h4)] at htok
  have h4':((kindOf c:Nat):Int)=4:=by omega
  simp +decide only [go_sem,WR,WS,hsz,e0,e3,e4,e53,hgw,i1,h4']
  refine W_does rfl (add_does x0w Lw ⟨4,[],c⟩ (upto:=at'+1) (by omega) (by omega)) fun r w3 hr=> ?_
  simp +decide only [go_sem,WR,WS,hsz]
  exact fin htok hr
 have h4':¬ ((kindOf c:Nat):Int)=4:=by omega
 by_cases h5:kindOf c=5
 ·rw [if_pos (.inr h5)] at htok
  have h5':((kindOf c:Nat):Int)=5:=by omega
  simp +decide only [go_sem,WR,WS,hsz,e0,e3,e4,e53,hgw,i1,h5']
  refine W_does rfl (add_does x0w Lw ⟨4,[],c⟩ (upto:=at'+1) (by omega) (by omega)) fun r w3 hr=> ?_
  simp +decide only [go_sem,WR,WS,hsz]
  exact fin htok hr
 have h5':¬ ((kindOf c:Nat):Int)=5:=by omega
 rw [if_neg (by rintro (hh | hh);exact h4 hh;exact h5 hh)] at htok
 by_cases h6:kindOf c=6
 ·rw [if_pos h6] at htok
  have h6':((kindOf c:Nat):Int)=6:=by omega
  simp +decide only [go_sem,WR,WS,hsz,e0,e3,e4,e53,hgw,i1,h6']
  refine W_does rfl (add_does x0w Lw ⟨5,[],c⟩ (upto:=at'+1) (by omega) (by omega)) fun r w3 hr=> ?_
  simp +decide only [go_sem,WR,WS,hsz]
  exact fin htok hr
 have h6':¬ ((kindOf c:Nat):Int)=6:=by omega
 rw [if_neg h6] at htok
 by_cases h7:kindOf c=7
 ·rw [if_pos h7] at htok
  have h7':((kindOf c:Nat):Int)=7:=by omega
  simp +decide only [go_sem,WR,WS,hsz,e0,e3,e4,e53,hgw,i1,h7']
  refine W_does rfl (add_does x0w Lw ⟨6,[],c⟩ (upto:=at'+1) (by omega) (by omega)) fun r w3 hr=> ?_
  simp +decide only [go_sem,WR,WS,hsz]
  exact fin htok hr
 have h7':¬ ((kindOf c:Nat):Int)=7:=by omega
 rw [if_neg h7] at htok
 simp +decide only [go_sem,WR,WS,hsz,e0,e3,e4,e53,hgw,i1,h4',h5',h6',h7']
 exact .inl ⟨htok,rfl⟩
theorem lexF_succ (f at':Nat) (s:List Int):lexF (f+1) at' s=match (s[0]? :Option Int) with
  | none=>some []
  | some c=>if c=9053 then some [] else match tokS s with
    | none=>none
    | some (none,k)=>lexF f (at'+k) (s.drop k)
    | some (some t,k)=>(lexF f (at'+k) (s.drop k)).map ((at',t)::·):=rfl
theorem lex_run (h:Heap) {l:List Int} {tv:Value} (t:Tx h tv l) :
  Runs K 36 #[tv] h fun r w=>(lex l=none∧r= .tuple #[.slice none 0 0,.bool false]) ∨
   ∃ (xs:List XT) (a:Option Addr) (c:Nat),lex l=some (xs.map (·.1))∧(∀ x ∈ xs,Arr5 x.2)∧xs.length≤l.length∧r= .tuple #[.slice a xs.length c,.bool true]∧Sl w 9 a xs.length c (xcs xs):=by
 obtain ⟨a,c,rfl⟩:=t.open
 refine Runs.of Kok (Does.intro rfl (by decide +kernel) Tryz.func36 rfl ?_)
 by_cases h512:(512:Int) < ((l.length:Nat):Int)
 ·have:lex l=none:=by
   unfold lex
   rw [if_pos (by omega)]
  simp +decide only [go_sem,WR,WS,h512]
  simp [this]
 have hl512:¬ 512 < l.length:=by omega
 obtain ⟨w1,e1,x1,hs1,g1⟩:=lay1 h (.cells [.slice a l.length c,.int .i64 0,.slice none 0 0] 3)
 have hk1:h.size≤w1.size:=x1.1
 simp +decide only [go_sem,WR,WS,h512,e1]
 refine W_loop (α:=Nat × Nat × List XT) (fun k e w=>k.1≤l.length∧lex l=(lexF k.2.1 k.1 (l.drop k.1)).map (k.2.2.map (·.1)++·)∧513≤k.2.1+k.1∧e.size=35∧Ext h w∧e.get 0= .slice a l.length c∧e.get 4= .pointer (some ⟨h.size,0,none⟩)∧LX h.size w h.size (.slice a l.length c) k.1 k.2.2) (fun k=>l.length - k.1) (0,600,[]) ?_ ?_
 ·refine ⟨Nat.zero_le _,?_,by simp only;omega,by simp +decide only [go_sem],x1,by simp +decide only [go_sem],by simp +decide only [go_sem],Nat.le_refl _,by omega,by simp,by simp,_,g1,Own.nil _ _ _,by simp [vblk]⟩
  unfold lex
  rw [if_neg hl512]
  simp
 ·rintro ⟨p,f,xs⟩ e w ⟨hp,hlex,hf,hsz,hxw,e0,e4,L⟩ next
  simp only at hp hlex hf L
  have L':=L
  obtain ⟨hl,hxb,hbd,hall,ov,hg,own,hv⟩:=L
  obtain ⟨g,rfl⟩:∃ g,f=g+1:=⟨f - 1,by omega⟩
  have hb0:(l.drop p)[0]? =l[p]? :=by rw [List.getElem?_drop,Nat.add_zero]
  rw [lexF_succ,hb0] at hlex
  obtain ⟨oa,oc,rfl⟩:=own.shape
  by_cases hpl:(p:Int) < ((l.length:Nat):Int)
  case neg =>
   rw [List.getElem?_eq_none (by omega)] at hlex
   simp +decide only [go_sem,WR,WS,hsz,e0,e4,hg,hpl]
   exact .inr ⟨xs,_,_,by simpa using hlex,hall,by omega,rfl,own.sl⟩
  obtain ⟨y,hy⟩:∃ y,l[p]? =some y:=⟨_,List.getElem?_eq_getElem (by omega)⟩
  rw [hy] at hlex
  simp only at hlex
  have i0:(0:Int)≤(p:Int):=by omega
  obtain ⟨b',o',cs',q1,q2,q3,q4⟩:=(t.ext hxw).one hy
  cases q1
  by_cases hlamp:y=9053
  ·rw [if_pos hlamp] at hlex
   simp +decide only [go_sem,WR,WS,hsz,e0,e4,hg,hpl,i0,Int.toNat_natCast,Nat.mul_one,q3,q4,hlamp]
   exact .inr ⟨xs,_,_,by simpa using hlex,hall,by omega,rfl,own.sl⟩
  rw [if_neg hlamp] at hlex
  simp +decide only [go_sem,WR,WS,hsz,e0,e4,hg,hpl,i0,Int.toNat_natCast,Nat.mul_one,q3,q4,hlamp]
  refine W_does rfl (Does.ext Kok hxw (next_does hxw t (by omega) L' (by omega))) fun r w2 hr=> ?_
  obtain ⟨hx2,hr⟩:=hr
  rcases hr with ⟨ht,rfl⟩ | ⟨k,ht,rfl,hk1,hk2,hL⟩ | ⟨tk,k,rest,ht,rfl,ha,hk1,hk2,hL⟩
  ·rw [ht] at hlex
   simp +decide only [go_sem,WR,WS,hsz,e0,e4]
   simpa using hlex
  ·rw [ht] at hlex
   simp only [List.drop_drop] at hlex
   simp +decide only [go_sem,WR,WS,hsz,e0,e4]
   exact next (p+k,g,xs) _ _ ⟨hk2,hlex,by simp only;omega,by simp +decide only [go_sem,hsz],hx2,by simp +decide only [go_sem,hsz,e0],by simp +decide only [go_sem,hsz,e4],hL⟩ (by simp only;omega)
  ·rw [ht] at hlex
   simp only [List.drop_drop] at hlex
   simp +decide only [go_sem,WR,WS,hsz,e0,e4]
   refine next (p+k,g,xs++[((p,tk),rest)]) _ _ ⟨hk2,?_,by simp only;omega,by simp +decide only [go_sem,hsz],hx2,by simp +decide only [go_sem,hsz,e0],by simp +decide only [go_sem,hsz,e4],hL⟩ (by simp only;omega)
   rw [hlex]
   simp only [Option.map_map]
   congr 1
   funext z
   simp
end Go.Proofs.YtachkofbmodnnaaGreatDoor.N23
namespace Go.Im.Lexing
abbrev rem (m s:List Int):List Int:=s++9053::m
theorem hi_le' (s:List Int):hi s≤s.length:=by
 unfold hi
 split
 ·rename_i h
  exact (List.getElem?_eq_some_iff.1 h).1
 ·omega
theorem digs_le (s:List Int):(digs s).length≤s.length:=tw_le s
theorem expoS_le {s:List Int} {k:Nat} (h:expoS s=some k):k≤s.length:=by
 unfold expoS at h
 split at h
 ·rename_i h0
  have h1:=(List.getElem?_eq_some_iff.1 h0).1
  have h2:=hi_le' (s.drop 1)
  have h3:=digs_le (s.drop (1+hi (s.drop 1)))
  rw [List.length_drop] at h2 h3
  split at h
  ·cases h
  ·cases h
   omega
 ·cases h
  omega
theorem pt_le (s:List Int):pt s≤1∧pt s≤s.length:=by
 unfold pt
 split
 ·rename_i h
  exact ⟨Nat.le_refl _,(List.getElem?_eq_some_iff.1 h).1⟩
 ·omega
theorem readS_le {s:List Int} {k:Nat} (h:readS s=some k):1≤k∧k≤s.length:=by
 unfold readS at h
 have h1:=hi_le' s
 have h2:=digs_le (s.drop (hi s))
 have h3:=pt_le (s.drop (hi s+(digs (s.drop (hi s))).length))
 rw [List.length_drop] at h2 h3
 simp only at h
 by_cases hp:pt (s.drop (hi s+(digs (s.drop (hi s))).length))=1
 ·rw [hp] at h h3
  have h4:=digs_le (s.drop (hi s+(digs (s.drop (hi s))).length+1))
  rw [List.length_drop] at h4
  simp only [if_true] at h
  split at h
  ·cases h
  ·split at h
   ·cases h
   ·rename_i k' hk
    have h5:=expoS_le hk
    rw [List.length_drop] at h5
    split at h
    ·cases h
    ·cases h
     omega
 ·have hp0:pt (s.drop (hi s+(digs (s.drop (hi s))).length))=0:=by omega
  rw [hp0] at h
  simp only [Nat.zero_ne_one,if_false,false_and,Nat.add_zero] at h
  split at h
  ·cases h
  ·rename_i k' hk
   have h5:=expoS_le hk
   rw [List.length_drop] at h5
   split at h
   ·cases h
   ·cases h
    omega
theorem blanks_le (s:List Int):blanks s≤s.length:=tw_le s
theorem numsF_s (f:Nat) (s:List Int):numsF (f+1) s=if begins s then match readS s with
   | none=>none
   | some k=>match numsF f (s.drop (k+blanks (s.drop k))) with
     | none=>none
     | some (0,_)=>some (1,k)
     | some (n+1,m)=>some (n+2,k+blanks (s.drop k)+m)
  else some (0,0):=rfl
theorem numsF_le:∀ (f:Nat) {s:List Int} {n m:Nat},numsF f s=some (n,m)→m≤s.length∧(begins s=true→1≤m)
 | 0,s,n,m,h=>by cases h
 | f+1,s,n,m,h=>by
   rw [numsF_s] at h
   split at h
   ·rename_i hb
    split at h
    ·cases h
    ·rename_i k hk
     have h1:=readS_le hk
     have h2:=blanks_le (s.drop k)
     rw [List.length_drop] at h2
     split at h
     ·cases h
     ·cases h
      exact ⟨h1.2,fun _=>h1.1⟩
     ·rename_i n' m' hq
      have h3:=(numsF_le f hq).1
      rw [List.length_drop] at h3
      cases h
      exact ⟨by omega,fun _=>by omega⟩
   ·rename_i hb
    cases h
    exact ⟨by omega,fun hh=>absurd hh hb⟩
theorem textF_le {s:List Int} {k:Nat} (h:textF s=some k):1≤k∧k≤s.length:=Go.Proofs.YtachkofbmodnnaaGreatDoor.N20.textF_len h
theorem wordS_le {k:Nat} {s:List Int} {x:Tk × Nat} (h:wordS k s=some x):1≤x.2∧x.2≤s.length:=by
 unfold wordS at h
 split at h
 ·rename_i hn
  cases h
  exact ⟨Go.Proofs.YtachkofbmodnnaaGreatDoor.N20.nameOK_len hn,tw_le s⟩
 ·cases h
end Go.Im.Lexing
namespace Go.Im.Lexing
open Go.Proofs.YtachkofbmodnnaaGreatDoor.N23
theorem tokS_cons (c:Int) (s:List Int):tokS (c::s)=if kindOf c=1 then some (none,1)
  else if begins (c::s) then (numsF 600 (c::s)).map fun x=>(some ⟨1,[],0⟩,x.2)
  else if kindOf c=2 then (wordS 2 (c::s)).map fun x=>(some x.1,x.2)
  else if c=39 then (textF s).map fun k=>(some ⟨1,[],0⟩,1+k)
  else if quadS (c::s) 0 c=true then (wordS 3 s).map fun x=>(some x.1,1+x.2)
  else if kindOf c=4∨kindOf c=5 then some (some ⟨4,[],c⟩,1)
  else if kindOf c=6 then some (some ⟨5,[],c⟩,1)
  else if kindOf c=7 then some (some ⟨6,[],c⟩,1)
  else none:=by
 have:=tokS_at (l:=c::s) (i:=0) (c:=c) rfl
 simpa using this
theorem tokS_le {s:List Int} {t:Option Tk} {k:Nat} (h:tokS s=some (t,k)):1≤k∧k≤s.length:=by
 cases s with
 | nil=>cases h
 | cons c s =>
   rw [tokS_cons] at h
   simp only [List.length_cons]
   split at h
   ·cases h;omega
   ·split at h
    ·rename_i hb
     simp only [Option.map_eq_some_iff,Prod.mk.injEq] at h
     obtain ⟨⟨n,m⟩,h1,_,rfl⟩:=h
     have:=numsF_le 600 h1
     simp only [List.length_cons] at this
     exact ⟨this.2 hb,this.1⟩
    ·split at h
     ·simp only [Option.map_eq_some_iff,Prod.mk.injEq] at h
      obtain ⟨x,h1,_,rfl⟩:=h
      exact wordS_le h1
     ·split at h
      ·simp only [Option.map_eq_some_iff,Prod.mk.injEq] at h
       obtain ⟨x,h1,_,rfl⟩:=h
       have:=textF_le h1
       omega
      ·split at h
       ·simp only [Option.map_eq_some_iff,Prod.mk.injEq] at h
        obtain ⟨x,h1,_,rfl⟩:=h
        have:=wordS_le h1
        omega
       ·split at h
        ·cases h;omega
        ·split at h
         ·cases h;omega
         ·split at h
          ·cases h;omega
          ·cases h
theorem lexF_s (f at':Nat) (c:Int) (s:List Int):lexF (f+1) at' (c::s)=if c=9053 then some [] else match tokS (c::s) with
   | none=>none
   | some (none,k)=>lexF f (at'+k) ((c::s).drop k)
   | some (some t,k)=>(lexF f (at'+k) ((c::s).drop k)).map ((at',t)::·):=rfl
theorem kindOf_32:kindOf 32=1:=by decide
def Rising (l:List Int):Nat→List (Nat × Tk)→Prop
 | _,[]=>True
 | p,t::ts=>p≤t.1∧(∃ c,l[t.1]? =some c∧c≠32)∧Rising l (t.1+1) ts
theorem Rising.mono {l:List Int} {p q:Nat} (hpq:p≤q):∀ {ts:List (Nat × Tk)},Rising l q ts→Rising l p ts
 | [],_=>trivial
 | t::ts,h=>⟨Nat.le_trans hpq h.1,h.2⟩
theorem lexF_rising (l:List Int):∀ (f p:Nat) {ts:List (Nat × Tk)},lexF f p (l.drop p)=some ts→Rising l p ts
 | 0,_,_,h=>by cases h
 | f+1,p,ts,h=>by
   cases hc:l[p]? with
   | none =>
     rw [List.drop_of_length_le (by simpa using hc)] at h
     cases h
     trivial
   | some c =>
     have hp:=(List.getElem?_eq_some_iff.1 hc).1
     have e1:l.drop p=c::l.drop (p+1):=by
      rw [List.drop_eq_getElem_cons hp,(List.getElem?_eq_some_iff.1 hc).2]
     have hd:∀ k,(c::l.drop (p+1)).drop k=l.drop (p+k):=fun k=>by rw [← e1,List.drop_drop]
     rw [e1,lexF_s] at h
     split at h
     ·cases h
      trivial
     ·split at h
      ·cases h
      ·rename_i k ht
       have h1:=tokS_le ht
       rw [hd] at h
       exact (lexF_rising l f (p+k) h).mono (by omega)
      ·rename_i t k ht
       have h1:=tokS_le ht
       rw [hd] at h
       simp only [Option.map_eq_some_iff] at h
       obtain ⟨ts',h2,rfl⟩:=h
       refine ⟨Nat.le_refl _,⟨c,hc,?_⟩,(lexF_rising l f (p+k) h2).mono (by simp only;omega)⟩
       rintro rfl
       rw [tokS_cons,if_pos kindOf_32] at ht
       cases ht
theorem lex_rising {l:List Int} {ts:List (Nat × Tk)} (h:lex l=some ts):Rising l 0 ts:=by
 unfold lex at h
 split at h
 ·cases h
 ·exact lexF_rising l 600 0 h
theorem Rising.at {l:List Int}:∀ {p:Nat} {ts:List (Nat × Tk)} {i:Nat} {t:Nat × Tk},Rising l p ts→ts[i]? =some t→p≤t.1∧(∃ c,l[t.1]? =some c∧c≠32)∧(∀ u,0 < i→ts[i - 1]? =some u→u.1 < t.1)
 | p,[],i,t,_,h=>by simp at h
 | p,u::ts,0,t,hr,h=>by
   cases h
   exact ⟨hr.1,hr.2.1,fun _ h0=>by omega⟩
 | p,u::ts,i+1,t,hr,h=>by
   have h1:=Rising.at hr.2.2 (i:=i) (by simpa using h)
   have h2:=hr.1
   refine ⟨by omega,h1.2.1,fun v _ hv=> ?_⟩
   cases i with
   | zero =>
     cases hv
     omega
   | succ i=>exact h1.2.2 v (by omega) (by simpa using hv)
end Go.Im.Lexing
namespace Go.Im
theorem own_any {low:Nat} {h w:Heap} (hlow:low≤h.size) (x:Ext h w) {size bytes:Nat} {v:Value} {n k:Nat} {xs new:List Value} (H:Own h.size w size v n xs) (hs:0 < size) (hn:new.length=k*size)
  (hb:2*(n+k)*bytes≤140737488355328) (hc:n+k≤4611686018427387904) :
  ∃ a c w',iapp low w size bytes v k (some new)=some (.slice a (n+k) c,w')∧Own h.size w' size (.slice a (n+k) c) (n+k) (xs++new)∧Ext h w'∧(c=0∨c=big):=by
 by_cases h0:k=0
 ·subst h0
  have hn0:new=[]:=List.eq_nil_of_length_eq_zero (by omega)
  subst hn0
  rcases H with ⟨rfl,rfl,rfl⟩ | ⟨b,rfl,h2,h3,h4,h5⟩
  ·refine ⟨none,0,w,?_,.inl ⟨rfl,rfl,rfl⟩,x,.inl rfl⟩
   simp [iapp]
  ·refine ⟨some ⟨b,0,none⟩,big,w,?_,.inr ⟨b,rfl,h2,h3,by rw [List.append_nil];exact h4,by rw [List.append_nil];exact h5⟩,x,.inr rfl⟩
   simp only [iapp,Nat.add_zero] at hb hc ⊢
   rw [if_neg (by omega),if_pos trivial]
 ·obtain ⟨w',h1,h2,_,h4⟩:=own_app2 hlow x H hs (by omega) hn hb hc
  exact ⟨_,_,w',h1,h2,h4,.inr rfl⟩
end Go.Im
namespace Go.Proofs.YtachkofbmodnnaaGreatDoor.N26
open Go Go.Im Go.Im.Limbs Go.Im.Lexing Go.Proofs Go.RowKit Hd N1 N15 N16 N17 N18 N19 N23
set_option maxRecDepth 100000
theorem tok_len {x:XT} (h:Arr5 x.2):(tc4 x.1++x.2).length=9:=by
 obtain ⟨a,n,c,b,a2,n2,c2,a3,n3,c3,m,h⟩:=h
 rw [h]
 rfl
theorem xcs_at:∀ {xs:List XT} {i:Nat} {x:XT},(∀ x ∈ xs,Arr5 x.2)→xs[i]? =some x→((xcs xs).drop (i*9)).take 9=tc4 x.1++x.2
 | [],i,x,_,h=>by simp at h
 | y::xs,0,x,hA,h=>by
   cases h
   have h1:=tok_len (hA y (by simp))
   simp only [xcs,List.flatMap_cons,Nat.zero_mul,List.drop_zero]
   rw [← h1,List.take_left']
   rfl
 | y::xs,i+1,x,hA,h=>by
   have h1:=tok_len (hA y (by simp))
   have h2:=xcs_at (xs:=xs) (i:=i) (fun z hz=>hA z (by simp [hz])) (by simpa using h)
   rw [← h2]
   simp only [xcs,List.flatMap_cons]
   have:(i+1)*9=9+i*9:=by omega
   rw [this,← List.drop_drop,← h1,List.drop_left']
   rfl
theorem Sl.tok {h:Heap} {a:Option Addr} {n c i:Nat} {xs:List XT} {x:XT} (s:Sl h 9 a n c (xcs xs)) (hA:∀ x ∈ xs,Arr5 x.2) (hn:xs.length=n) (hx:xs[i]? =some x) :
  ∃ b o cs,a=some ⟨b,o,none⟩∧b < h.size∧(h.get b).read= .cells cs 9∧cs[o+i*9]? =some (.int .i64 (x.1.2.kind:Int))∧cs[o+i*9+1]? =some (.int .i64 (x.1.1:Int))∧cs[o+i*9+2]? =some (.string (runesBytes x.1.2.word)) ∧
    cs[o+i*9+3]? =some (.int .i32 x.1.2.sign)∧(cs.drop (o+i*9)).take 9=tc4 x.1++x.2∧o+i*9+9≤cs.length:=by
 have hi:i < n:=by rw [← hn];exact (List.getElem?_eq_some_iff.1 hx).1
 obtain ⟨b,o,cs,h1,h2,h3,h4,h5⟩:=s.at hi
 have h6:=xcs_at hA hx
 have h9:i*9+9≤n*9:=by omega
 rw [h5,List.drop_take,List.take_take,List.drop_drop,Nat.min_eq_left (by omega)] at h6
 have hj:∀ j,j < 9→cs[o+i*9+j]? =(tc4 x.1++x.2)[j]? :=by
  intro j hj
  rw [← h6,List.getElem?_take,if_pos hj,List.getElem?_drop]
 exact ⟨b,o,cs,h1,h2,h3,(hj 0 (by omega)).trans rfl,(hj 1 (by omega)).trans rfl,(hj 2 (by omega)).trans rfl,(hj 3 (by omega)).trans rfl,h6,by omega⟩
end Go.Proofs.YtachkofbmodnnaaGreatDoor.N26
namespace Go.Im
open Go.Im.Limbs Go.Im.Dec
def rr (n:Nat):List UInt8:=if h:n=0 then [] else UInt8.ofNat (48+n%10)::rr (n / 10)
decreasing_by omega
theorem rr_zero:rr 0=[]:=by rw [rr,dif_pos rfl]
theorem rr_pos {n:Nat} (h:n≠0):rr n=UInt8.ofNat (48+n%10)::rr (n / 10):=by rw [rr,dif_neg h]
theorem rr_ds:∀ n:Nat,n≠0→(rr n).reverse=ds n:=by
 intro n
 induction n using Nat.strongRecOn with
 | ind n ih =>
   intro h0
   rw [rr_pos h0,List.reverse_cons]
   by_cases h:n < 10
   ·rw [ds_lt h,show n / 10=0 by omega,rr_zero,show n%10=n by omega]
    rfl
   ·rw [ds_ge (by omega),ih (n / 10) (by omega) (by omega)]
theorem rr_len:∀ (k:Nat) {n:Nat},n < 10 ^ k→(rr n).length≤k
 | 0,n,h=>by
   have:n=0:=by simpa using h
   subst this
   rw [rr_zero]
   simp
 | k+1,n,h=>by
   by_cases h0:n=0
   ·subst h0
    rw [rr_zero]
    simp
   ·have:=rr_len k (n:=n / 10) (by rw [Nat.pow_succ] at h;omega)
    rw [rr_pos h0,List.length_cons]
    omega
def NatZ (w:Heap) (v:Value) (m:Nat):Prop:=∃ a c,v= .agg #[.slice a (dig m).length c]∧(m≠0→Sl w 1 a (dig m).length c (lv (dig m)))
theorem NatV.z {w:Heap} {v:Value} {m:Nat} (H:NatV w v m):NatZ w v m:=by
 obtain ⟨a,c,h1,h2⟩:=H.open
 exact ⟨a,c,h1,fun _=>h2⟩
theorem NatZ.v {w:Heap} {v:Value} {m:Nat} (H:NatZ w v m) (h:m≠0):NatV w v m:=by
 obtain ⟨a,c,h1,h2⟩:=H
 exact ⟨a,_,c,h1,h2 h⟩
theorem NatZ.ext {w w':Heap} (k:Ext w w') {v:Value} {m:Nat} (H:NatZ w v m):NatZ w' v m:=by
 obtain ⟨a,c,h1,h2⟩:=H
 exact ⟨a,c,h1,fun h=>(h2 h).ext k⟩
theorem NatZ.oth {low:Nat} {w w':Heap} {v u:Value} {m n:Nat} {S:List UInt8} (H:NatZ w v m) (O:Own low w 1 u n (byteCells S)) (hs:w.size≤w'.size) (k:∀ b,b < w.size→vblk u≠some b→w'.get b=w.get b):NatZ w' v m:=by
 obtain ⟨a,c,h1,h2⟩:=H
 refine ⟨a,c,h1,fun h=> ?_⟩
 have hd:dig m≠[]:=by rw [dig_pos h];simp
 obtain ⟨d,hd0⟩:∃ d,(dig m)[0]? =some d:=⟨_,List.getElem?_eq_getElem (List.length_pos_iff.2 hd)⟩
 rcases h2 h with ⟨_,h3,_⟩ | ⟨_,_,_,h3,_⟩ | ⟨b,o,cs,h3,h4,h5,h6,h7,h8,h9⟩
 ·exact absurd (List.eq_nil_of_length_eq_zero h3) hd
 ·exact absurd (List.eq_nil_of_length_eq_zero h3) hd
 ·refine .inr (.inr ⟨b,o,cs,h3,h4,by omega,?_,h7,h8,h9⟩)
  rw [k b h5 ?_]
  ·exact h6
  ·intro hv
   rcases O with ⟨rfl,_⟩ | ⟨b',rfl,_,_,g,_⟩
   ·cases hv
   ·simp only [vblk,Option.some.injEq] at hv
    subst hv
    rw [g] at h6
    simp only [Blk.read,Blk.cells.injEq,and_true] at h6
    have hl:=lv_get hd0
    rw [h8,← h6,List.getElem?_take] at hl
    split at hl
    ·rw [List.getElem?_drop] at hl
     have hm:=List.mem_of_getElem? hl
     simp [byteCells] at hm
    ·cases hl
theorem app_oth {low:Nat} {B W:Heap} (hlow:low≤B.size) (x:Ext B W) {size bytes:Nat} {v:Value} {n k:Nat} {xs new:List Value} (H:Own B.size W size v n xs) (hs:0 < size) (hk:0 < k) (hn:new.length=k*size)
  (hb:2*(n+k)*bytes≤140737488355328) (hc:n+k≤4611686018427387904) :
  ∃ w',iapp low W size bytes v k (some new)=some (.slice (some ⟨W.size,0,none⟩) (n+k) big,w')∧Own B.size w' size (.slice (some ⟨W.size,0,none⟩) (n+k) big) (n+k) (xs++new)∧w'.size=W.size+1∧Ext B w'∧∀ b,b < W.size→vblk v≠some b→w'.get b=W.get b:=by
 obtain ⟨w',h1,h2,h3,h4⟩:=own_app (H.keep hlow fun b hb _=>⟨rfl,hb⟩) (Nat.le_trans hlow x.1) hs hk hn hb hc
 refine ⟨w',h1,?_,h3,⟨by have:=x.1;omega,fun b hb=> ?_⟩,h4⟩
 ·rcases h2 with ⟨h5,_⟩ | ⟨b,h5,_,h6,h7,h8⟩
  ·cases h5
  ·cases h5
   exact .inr ⟨W.size,rfl,x.1,h6,h7,h8⟩
 ·rw [h4 b (by have:=x.1;omega),x.2 b hb]
  intro hv
  rcases H with ⟨rfl,_⟩ | ⟨b',rfl,g1,_⟩
  ·cases hv
  ·simp only [vblk,Option.some.injEq] at hv
   omega
def turnI (L C:List UInt8) (k:Nat):Prop:=C.length=L.length∧∀ q,q < L.length→C[q]? =if q < k∨L.length≤q+k then L[L.length - 1 - q]? else L[q]?
theorem turn_start (L:List UInt8):turnI L L 0:=⟨rfl,fun q hq=>by rw [if_neg (by omega)]⟩
theorem turn_end {L C:List UInt8} {k:Nat} (h:turnI L C k) (hk:L.length≤2*k+1):C=L.reverse:=by
 apply List.ext_getElem?
 intro q
 by_cases hq:q < L.length
 ·rw [h.2 q hq,List.getElem?_reverse hq]
  split
  ·rfl
  ·have:q=L.length - 1 - q:=by omega
   rw [← this]
 ·rw [List.getElem?_eq_none (by rw [h.1];omega),List.getElem?_eq_none (by rw [List.length_reverse];omega)]
theorem turn_step {L C:List UInt8} {k:Nat} {x y:UInt8} (h:turnI L C k) (hk:2*k+1 < L.length) (hx:C[k]? =some x) (hy:C[L.length - 1 - k]? =some y):turnI L ((C.set k y).set (L.length - 1 - k) x) (k+1):=by
 have h1:=h.2 k (by omega)
 have h2:=h.2 (L.length - 1 - k) (by omega)
 rw [if_neg (by omega),hx] at h1
 rw [if_neg (by omega),hy] at h2
 refine ⟨by simp [h.1],fun q hq=> ?_⟩
 rw [List.getElem?_set,List.length_set,h.1]
 by_cases e1:L.length - 1 - k=q
 ·rw [if_pos e1,if_pos (by omega),if_pos (by omega),h1]
  congr 1
  omega
 ·rw [if_neg e1,List.getElem?_set,h.1]
  by_cases e2:k=q
  ·rw [if_pos e2,if_pos (by omega),if_pos (by omega),h2]
   congr 1
   omega
  ·rw [if_neg e2,h.2 q hq]
   have:(q < k∨L.length≤q+k)↔(q < k+1∨L.length≤q+(k+1)):=by omega
   simp only [this]
theorem byte_put {C:List UInt8} {k:Nat} (h:k < C.length) (x:UInt8):(byteCells C).take k++[.int .u8 (x.toNat:Int)]++(byteCells C).drop (k+1)=byteCells (C.set k x):=by
 rw [put_one (by rw [byteCells_length];exact h)]
 simp [byteCells,List.map_set]
theorem byte_get {C:List UInt8} {k:Nat} {x:UInt8} (h:C[k]? =some x):(byteCells C)[k]? =some (.int .u8 (x.toNat:Int)):=by simp [byteCells,h]
end Go.Im
namespace Go.Proofs.YtachkofbmodnnaaGreatDoor.P1
open Go Go.Im Go.Im.Limbs Go.Im.Dec Go.Proofs Go.RowKit Hd N1 N4 N12
set_option maxRecDepth 100000
theorem zeroz_run (m:Nat) (h:Heap) {v:Value} (hv:NatZ h v m):Runs K 129 #[v] h fun x _=>x= .bool (decide (m=0)):=by
 obtain ⟨a,c,rfl,s⟩:=hv
 refine Runs.of Kok (Does.intro rfl (by decide +kernel) Tryz.func129 rfl ?_)
 simp +decide only [go_sem,WR,WS]
 congr 1
 rw [decide_eq_decide]
 rw [← dig_nil,← List.length_eq_zero_iff]
 omega
theorem rem10 {r:Nat}:((r:Nat):Int).tmod 10=((r%10:Nat):Int):=by rw [Int.tmod_eq_emod_of_nonneg (by omega)];simp
theorem quo10 {r:Nat} (h:r < 4294967296):IntKind.u32.wrap (((r:Nat):Int).tdiv 10)=((r / 10:Nat):Int):=by
 rw [Int.tdiv_eq_ediv_of_nonneg (by omega),show ((r:Nat):Int) / 10=((r / 10:Nat):Int) by simp,w32]
 congr 1
 omega
theorem dgt48 {d:Nat} (h:d≤9):IntKind.u32.wrap (48+((d:Nat):Int))=((48+d:Nat):Int)∧IntKind.u8.wrap ((48+d:Nat):Int)=((48+d:Nat):Int):=by
 have e:(48:Int)+((d:Nat):Int)=((48+d:Nat):Int):=by omega
 refine ⟨by rw [e,w32];congr 1;omega,?_⟩
 simp only [IntKind.wrap,IntKind.bits,IntKind.signed,Bool.false_and,Bool.false_eq_true,if_false]
 show ((48+d:Nat):Int)%256=_
 omega
theorem b48 {d:Nat} (h:d≤9):byteCells [UInt8.ofNat (48+d)]=[.int .u8 ((48+d:Nat):Int)]:=by
 have:(UInt8.ofNat (48+d)).toNat=48+d:=by
  rw [UInt8.toNat_ofNat']
  omega
 simp only [byteCells,List.map_cons,List.map_nil,this]
set_option maxHeartbeats 4000000 in
theorem ntext_run (m:Nat) (h:Heap) {v:Value} (hv:NatV h v m) (hm:m < 10 ^ 3000):Runs K 102 #[v] h fun r _=>r= .string (text (ds m)):=by
 obtain ⟨a,c,rfl,s⟩:=hv.open
 refine Runs.of Kok (Does.intro rfl (by decide +kernel) Tryz.func102 rfl ?_)
 obtain ⟨w1,e1,x1,hs1,z1⟩:=lay1 h (.cells [.slice a (dig m).length c] 1)
 by_cases h0:m=0
 ·subst h0
  rw [dig_zero] at z1 e1 ⊢
  simp +decide only [go_sem,WR,WS,e1,z1,List.length_nil,Int.natCast_zero]
  rw [ds_zero]
  rfl
 have hd0:¬ (((dig m).length:Nat):Int)=0:=by
  have:(dig m).length≠0:=by rw [dig_pos h0];simp
  omega
 have hrm:=rr_len 3000 hm
 have hdl:∀ R,R≤m→(dig R).length≤549755813887:=by
  intro R hR
  have h1:=dig_ten (m:=R) (k:=3000) (by omega)
  omega
 have j0:h.size≤h.size:=Nat.le_refl _
 simp +decide only [go_sem,WR,WS,e1,z1,hd0]
 apply W_join (α:=Value × List UInt8) (fun k e w=>e.size=70∧Ext h w∧e.get 3=k.1∧Own h.size w 1 k.1 k.2.length (byteCells k.2)∧k.2=rr m)
 ·intro out
  refine W_loop (α:=Nat × Value × Value × List UInt8) (fun k e w=>e.size=70∧Ext h w∧h.size < w.size∧(∃ aR cR,k.2.1= .slice aR (dig k.1).length cR)∧w.get h.size= .cells [k.2.1] 1∧NatZ w (.agg #[k.2.1]) k.1∧e.get 1= .pointer (some ⟨h.size,0,none⟩)∧e.get 3=k.2.2.1 ∧
   Own h.size w 1 k.2.2.1 k.2.2.2.length (byteCells k.2.2.2)∧vblk k.2.2.1≠some h.size∧k.2.2.2++rr k.1=rr m∧k.1≤m) (fun k=>k.1) (m,.slice a (dig m).length c,.slice none 0 0,[]) ?_ ?_
  ·exact ⟨by simp +decide only [go_sem],x1,by omega,⟨a,c,rfl⟩,z1,(hv.ext x1).z,by simp +decide only [go_sem],by simp +decide only [go_sem],Own.nil _ _ _,by simp [vblk],rfl,Nat.le_refl _⟩
  rintro ⟨R,p,tv,S⟩ e w ⟨hsz,xw,hw,hp,g0,nz,e1',e3,own,hne,hS,hRm⟩ next
  simp only at hp g0 nz e3 own hne hS hRm
  obtain ⟨aR,cR,rfl⟩:=hp
  simp +decide only [go_sem,WR,WS,hsz,e1',g0]
  refine W_call Kok xw.1 (zeroz_run R w nz) fun r w2 x2 hr=> ?_
  subst hr
  have own2:=own.ext x2
  have g2:w2.get h.size=_:=(x2.2 _ hw).trans g0
  have xw2:=xw.trans x2
  by_cases hR0:R=0
  ·subst hR0
   rw [rr_zero,List.append_nil] at hS
   simp +decide only [go_sem,WR,hsz,decide_true]
   exact out (tv,S) _ _ ⟨by simp +decide only [go_sem,hsz],xw2,by simp +decide only [go_sem,hsz,e3],own2,hS⟩
  have nv2:=(nz.v hR0).ext x2
  simp +decide only [go_sem,WR,WS,hsz,hR0,e1',g2]
  refine W_call Kok xw2.1 (small_run R 1000000000 w2 nv2 (by omega) (by omega) (hdl R hRm)) fun r w3 x3 hr=> ?_
  obtain ⟨q,rfl,nq⟩:=hr
  obtain ⟨Q,hQ⟩:∃ Q,Q=R / 1000000000:=⟨_,rfl⟩
  obtain ⟨r0,hr0⟩:∃ r0,r0=R%1000000000:=⟨_,rfl⟩
  rw [← hQ] at nq
  rw [← hr0]
  obtain ⟨aq,cq,rfl,sq⟩:=nq.open
  have hw2:=x2.1
  have hw3:=x3.1
  obtain ⟨w4,e4,x4,hs4,z4⟩:=lay1 w3 (.cells [.slice none 0 0] 1)
  obtain ⟨w5,e5,x5,hs5,z5,k5⟩:=put1 x4 (Nat.le_refl w3.size) (.cells [.slice aq (dig Q).length cq] 1)
  have xw5:=xw2.trans (x3.trans x5)
  have j3:h.size≤w3.size:=by have:=xw.1;omega
  have g5:w5.get h.size=_:=((x3.trans x5).2 _ (by omega)).trans g2
  have nz5:NatZ w5 (.agg #[.slice aq (dig Q).length cq]) Q:=(nq.ext x5).z
  have own5:=own2.ext (x3.trans x5)
  have hne5:vblk tv≠some w3.size:=by
   rcases own2 with ⟨rfl,_⟩ | ⟨b,rfl,_,hb,_⟩
   ·simp [vblk]
   ·simp only [vblk,ne_eq,Option.some.injEq]
    omega
  simp +decide only [go_sem,WR,WS,hsz,e4,z4,j3,e5]
  apply W_join (α:=Value × List UInt8) (fun k e w=>e.size=70∧Ext h w∧h.size < w.size∧w3.size < w.size∧w.get h.size= .cells [.slice aR (dig R).length cR] 1∧w.get w3.size= .cells [.slice aq (dig Q).length cq] 1∧NatZ w (.agg #[.slice aq (dig Q).length cq]) Q∧e.get 1= .pointer (some ⟨h.size,0,none⟩) ∧
   e.get 3=k.1∧e.get 4= .pointer (some ⟨w3.size,0,none⟩)∧Own h.size w 1 k.1 k.2.length (byteCells k.2)∧vblk k.1≠some h.size∧k.2++rr Q=rr m)
  ·intro done
   refine W_loop (α:=Nat × Nat × Value × List UInt8) (fun k e w=>k.1≤9∧k.2.1 < 10 ^ (9 - k.1)∧e.size=70∧Ext h w∧h.size < w.size∧w3.size < w.size∧w.get h.size= .cells [.slice aR (dig R).length cR] 1∧w.get w3.size= .cells [.slice aq (dig Q).length cq] 1∧NatZ w (.agg #[.slice aq (dig Q).length cq]) Q ∧
    e.get 1= .pointer (some ⟨h.size,0,none⟩)∧e.get 3=k.2.2.1∧e.get 4= .pointer (some ⟨w3.size,0,none⟩)∧e.get 5= .int .u32 (k.2.1:Int)∧e.get 6= .int .i64 (k.1:Int)∧Own h.size w 1 k.2.2.1 k.2.2.2.length (byteCells k.2.2.2)∧vblk k.2.2.1≠some h.size∧vblk k.2.2.1≠some w3.size ∧
    k.2.2.2++rr (Q*10 ^ (9 - k.1)+k.2.1)=rr m) (fun k=>9 - k.1) (0,r0,tv,S) ?_ ?_
   ·refine ⟨by omega,by simp only;omega,by simp +decide only [go_sem,hsz],xw5,by omega,by omega,g5,z5,nz5,by simp +decide only [go_sem,hsz,e1'],by simp +decide only [go_sem,hsz,e3],by simp +decide only [go_sem,hsz],by simp +decide only [go_sem,hsz],by simp +decide only [go_sem,hsz];rfl,own5,hne,hne5,?_⟩
    simp only
    rw [← hS]
    congr 2
    omega
   rintro ⟨i,r,tv',S'⟩ f u ⟨hi,hr,fsz,xu,hu,hu3,a0,a3,nu,f1,f3,f4,f5,f6,ou,o0,o3,hSr⟩ next2
   simp only at hi hr f3 f5 f6 ou o0 o3 hSr
   have hSl:S'.length≤3000:=by
    have:=congrArg List.length hSr
    rw [List.length_append] at this
    omega
   apply W_join (α:=Unit) (fun _ e w=>i < 9∧Q*10 ^ (9 - i)+r≠0∧e.size=70∧Ext u w∧e.get 1= .pointer (some ⟨h.size,0,none⟩)∧e.get 3=tv'∧e.get 4= .pointer (some ⟨w3.size,0,none⟩)∧e.get 5= .int .u32 (r:Int)∧e.get 6= .int .i64 (i:Int))
   ·intro go
    simp +decide only [go_sem,WS]
    by_cases hi9:(i:Int) < 9
    case neg =>
     have hi9':i=9:=by omega
     subst hi9'
     have hr0':r=0:=by simpa using hr
     subst hr0'
     simp only [Nat.sub_self,Nat.pow_zero,Nat.mul_one,Nat.add_zero] at hSr
     simp +decide only [go_sem,WR,fsz,f6,hi9]
     exact done (tv',S') _ _ ⟨by simp +decide only [go_sem,fsz],xu,hu,hu3,a0,a3,nu,by simp +decide only [go_sem,fsz,f1],by simp +decide only [go_sem,fsz,f3],by simp +decide only [go_sem,fsz,f4],ou,o0,hSr⟩
    by_cases hrp:(0:Int) < (r:Int)
    ·(rw [WR];simp +decide only [go_sem,WS,fsz,f5,f6,hi9,hrp])
     exact go () _ _ ⟨by omega,by omega,by simp +decide only [go_sem,fsz],Ext.refl u,by simp +decide only [go_sem,fsz,f1],by simp +decide only [go_sem,fsz,f3],by simp +decide only [go_sem,fsz,f4],by simp +decide only [go_sem,fsz,f5],by simp +decide only [go_sem,fsz,f6]⟩
    ·have hr0':r=0:=by omega
     subst hr0'
     (rw [WR];simp +decide only [go_sem,WS,fsz,f4,f5,f6,hi9,hrp,a3])
     refine W_call Kok xu.1 (zeroz_run Q u nu) fun rz u2 y2 hrz=> ?_
     subst hrz
     by_cases hQ0:Q=0
     ·rw [hQ0,Nat.zero_mul,Nat.zero_add] at hSr
      have nu2:=nu.ext y2
      have b0:u2.get h.size=_:=(y2.2 _ hu).trans a0
      have b3:u2.get w3.size=_:=(y2.2 _ hu3).trans a3
      have hy2:=y2.1
      simp +decide only [go_sem,WR,fsz,hQ0]
      exact done (tv',S') _ _ ⟨by simp +decide only [go_sem,fsz],xu.trans y2,by omega,by omega,b0,b3,nu2,by simp +decide only [go_sem,fsz,f1],by simp +decide only [go_sem,fsz,f3],by simp +decide only [go_sem,fsz,f4],ou.ext y2,o0,by simp only [hQ0];exact hSr⟩
     ·have hpos:Q*10 ^ (9 - i)+0≠0:=by
       have:=Nat.mul_pos (Nat.pos_of_ne_zero hQ0) (Nat.pow_pos (n:=9 - i) (show 0 < 10 by omega))
       omega
      simp +decide only [go_sem,WS,fsz,hQ0]
      exact go () _ _ ⟨by omega,hpos,by simp +decide only [go_sem,fsz],y2,by simp +decide only [go_sem,fsz,f1],by simp +decide only [go_sem,fsz,f3],by simp +decide only [go_sem,fsz,f4],by simp +decide only [go_sem,fsz,f5],by simp +decide only [go_sem,fsz,f6]⟩
   rintro _ f' u2 ⟨hi9,hpos,fsz',y2,f1',f3',f4',f5',f6'⟩
   have hd9:r%10≤9:=by omega
   have hr32:r < 4294967296:=by
    have h1:10 ^ (9 - i)≤10 ^ 9:=Nat.pow_le_pow_right (by omega) (by omega)
    omega
   obtain ⟨m1,m2⟩:=dgt48 hd9
   have m3:=rem10 (r:=r)
   have m4:=quo10 hr32
   have hy2:=y2.1
   obtain ⟨u3,e3',y3,hs3,z3⟩:=lay1 u2 (.cells [.int .u8 ((48+r%10:Nat):Int)] 1)
   have y23:=y2.trans y3
   obtain ⟨u4,e4',own4,hs4',x4',k4⟩:=app_oth (low:=h.size) (bytes:=1) (k:=1) (new:=byteCells [UInt8.ofNat (48+r%10)]) (Nat.le_refl _) (xu.trans y23) (ou.ext y23) (by omega) (by omega) rfl (by omega) (by omega)
   have c0:u4.get h.size=_:=(k4 _ (by omega) o0).trans ((y23.2 _ hu).trans a0)
   have c3:u4.get w3.size=_:=(k4 _ (by omega) o3).trans ((y23.2 _ hu3).trans a3)
   have nu4:=(nu.ext y23).oth (ou.ext y23) (by omega) k4
   rw [b48 hd9] at e4'
   rw [← byteCells_append] at own4
   have i1:IntKind.i64.wrap ((i:Int)+1)=((i+1:Nat):Int):=by rw [wrap_i64 (by omega) (by omega)];omega
   obtain ⟨at',ct',rfl⟩:=ou.shape
   simp +decide only [go_sem,WR,WS,fsz',f1',f3',f4',f5',f6',m3,m1,m2,m4,e3',z3,e4',i1]
   refine next2 (i+1,r / 10,.slice (some ⟨u3.size,0,none⟩) (S'.length+1) big,S'++[UInt8.ofNat (48+r%10)]) _ _ ⟨by simp only;omega,?_,by simp +decide only [go_sem,fsz'],x4',by omega,by omega,c0,c3,nu4,by simp +decide only [go_sem,fsz',f1'],by simp +decide only [go_sem,fsz'],by simp +decide only [go_sem,fsz',f4'],by simp +decide only [go_sem,fsz'],by simp +decide only [go_sem,fsz'],by rw [List.length_append];exact own4,by simp only [vblk,ne_eq,Option.some.injEq];omega,by simp only [vblk,ne_eq,Option.some.injEq];omega,?_⟩ (by simp only;omega)
   ·simp only
    have:10 ^ (9 - i)=10*10 ^ (9 - (i+1)):=by rw [← Nat.pow_succ',show (9 - (i+1)).succ=9 - i by omega]
    omega
   ·simp only
    have hp:10 ^ (9 - i)=10*10 ^ (9 - (i+1)):=by rw [← Nat.pow_succ',show (9 - (i+1)).succ=9 - i by omega]
    rw [rr_pos hpos,hp] at hSr
    have q1:(Q*(10*10 ^ (9 - (i+1)))+r)%10=r%10:=by
     rw [← Nat.mul_assoc,Nat.mul_comm Q 10,Nat.mul_assoc]
     omega
    have q2:(Q*(10*10 ^ (9 - (i+1)))+r) / 10=Q*10 ^ (9 - (i+1))+r / 10:=by
     rw [← Nat.mul_assoc,Nat.mul_comm Q 10,Nat.mul_assoc]
     omega
    rw [q1,q2] at hSr
    rw [List.append_assoc]
    exact hSr
  rintro ⟨tv',S'⟩ f u ⟨fsz,xu,hu,hu3,a0,a3,nu,f1,f3,f4,ou,o0,hSr⟩
  simp only at f3 ou o0 hSr
  obtain ⟨u2,e2',y2,hsu2,zu2,ku2⟩:=put1 xu (Nat.le_refl h.size) (.cells [.slice aq (dig Q).length cq] 1)
  have ou2:Own h.size u2 1 tv' S'.length (byteCells S'):=ou.keep (Nat.le_refl _) fun b hb hv=>⟨ku2 b (fun hh=>o0 (by rw [← hh];exact hv)),by omega⟩
  have nu2:NatZ u2 (.agg #[.slice aq (dig Q).length cq]) Q:=by
   by_cases hQ0:Q=0
   ·exact ⟨aq,cq,rfl,fun hh=>absurd hQ0 hh⟩
   ·exact ((nu.v hQ0).over a0 (by rfl) (by rfl) hsu2 zu2 ku2).z
  obtain ⟨at',ct',rfl⟩:=ou.shape
  simp +decide only [go_sem,WR,WS,fsz,f1,f3,f4,a3,j0,a0,e2']
  exact next (Q,.slice aq (dig Q).length cq,.slice at' S'.length ct',S') _ _ ⟨by simp +decide only [go_sem,fsz],y2,by omega,⟨aq,cq,rfl⟩,zu2,nu2,by simp +decide only [go_sem,fsz,f1],by simp +decide only [go_sem,fsz,f3],ou2,o0,hSr,by simp only;omega⟩ (by simp only;omega)
 rintro ⟨tv,S⟩ e w ⟨hsz,xw,e3,own,hS⟩
 simp only at e3 own hS
 have hSn:S≠[]:=by rw [hS,rr_pos h0];simp
 have hSl:=List.length_pos_iff.2 hSn
 have hS3:S.length≤3000:=by rw [hS];exact hrm
 rcases own with ⟨_,hh,_⟩ | ⟨b,rfl,hb1,hb2,hb3,hb4⟩
 ·omega
 have i0:IntKind.i64.wrap (((S.length:Nat):Int) - 1)=((S.length - 1:Nat):Int):=by rw [wrap_i64 (by omega) (by omega)];omega
 simp +decide only [go_sem,WR,WS,hsz,e3,i0]
 refine W_loop (α:=Nat × List UInt8) (fun k e w=>k.1≤S.length∧e.size=70∧Ext h w∧b < w.size∧w.get b= .cells (byteCells k.2) 1∧turnI S k.2 k.1∧e.get 3= .slice (some ⟨b,0,none⟩) S.length big∧e.get 7= .int .i64 (k.1:Int)∧e.get 8= .int .i64 (((S.length:Nat):Int) - 1 - (k.1:Int))∧2*k.1≤S.length+1) (fun k=>S.length - k.1) (0,S) ?_ ?_
 ·exact ⟨by omega,by simp +decide only [go_sem,hsz],xw,hb2,hb3,turn_start S,by simp +decide only [go_sem,hsz,e3],by simp +decide only [go_sem,hsz];rfl,by simp +decide only [go_sem,hsz];congr 1;omega,by simp only;omega⟩
 rintro ⟨i,C⟩ f u ⟨hi,fsz,xu,hu,g,ht,f3,f7,f8,hi2⟩ next
 simp only at hi g ht f7 f8 hi2
 by_cases hij:(i:Int) < ((S.length:Nat):Int) - 1 - (i:Int)
 ·have hCl:=ht.1
  obtain ⟨x,hx⟩:∃ x,C[i]? =some x:=⟨_,List.getElem?_eq_getElem (by omega)⟩
  obtain ⟨y,hy⟩:∃ y,C[S.length - 1 - i]? =some y:=⟨_,List.getElem?_eq_getElem (by omega)⟩
  obtain ⟨j,hj⟩:∃ j,j=S.length - 1 - i:=⟨_,rfl⟩
  have hjj:((S.length:Nat):Int) - 1 - (i:Int)=(j:Int):=by omega
  have ht':=turn_step ht (by omega) hx hy
  rw [← hj] at hy ht'
  rw [hjj] at f8 hij
  have bx:=byte_get hx
  have by':=byte_get hy
  obtain ⟨u2,e2,y2,hs2,z2,k2⟩:=put1 xu hb1 (.cells (byteCells (C.set i y)) 1)
  obtain ⟨u3,e3',y3,hs3,z3,k3⟩:=put1 y2 hb1 (.cells (byteCells ((C.set i y).set j x)) 1)
  have p1:=byte_put (C:=C) (k:=i) (by omega) y
  have p2:=byte_put (C:=C.set i y) (k:=j) (by simp;omega) x
  have c0:(0:Int)≤(i:Int):=by omega
  have c1:(i:Int) < ((S.length:Nat):Int):=by omega
  have c2:(0:Int)≤(j:Int):=by omega
  have c3:(j:Int) < ((S.length:Nat):Int):=by omega
  have l1:i+1≤(byteCells C).length:=by rw [byteCells_length];omega
  have l2:j+1≤(byteCells (C.set i y)).length:=by rw [byteCells_length,List.length_set];omega
  have i1:IntKind.i64.wrap ((i:Int)+1)=((i+1:Nat):Int):=by rw [wrap_i64 (by omega) (by omega)];omega
  have i2:IntKind.i64.wrap ((j:Int) - 1)=(j:Int) - 1:=wrap_i64 (by omega) (by omega)
  simp +decide only [go_sem,WR,WS,fsz,f3,f7,f8,hij,c0,c1,c2,c3,Int.toNat_natCast,g,bx,by',hb1,l1,p1,e2,z2,l2,p2,e3',i1,i2]
  exact next (i+1,(C.set i y).set j x) _ _ ⟨by simp only;omega,by simp +decide only [go_sem,fsz],y3,by omega,z3,ht',by simp +decide only [go_sem,fsz,f3],by simp +decide only [go_sem,fsz],by simp +decide only [go_sem,fsz];congr 1;omega,by simp only;omega⟩ (by simp only;omega)
 ·have hC:=turn_end ht (by omega)
  rw [hC] at g
  have isl:islice u 1 (.slice (some ⟨b,0,none⟩) S.length big)=some (byteCells S.reverse):=by
   have hl:(byteCells S.reverse).length=S.length:=by rw [byteCells_length,List.length_reverse]
   simp only [islice,Heap.look,g,Blk.read]
   rw [if_pos ⟨trivial,by omega⟩,List.drop_zero,Nat.mul_one,List.take_of_length_le (by omega)]
  simp +decide only [go_sem,WR,WS,fsz,f3,f7,f8,hij,isl,icvs_bytes]
  rw [hS,rr_ds m h0]
end Go.Proofs.YtachkofbmodnnaaGreatDoor.P1
namespace Go.Proofs.YtachkofbmodnnaaGreatDoor.P2
open Go Go.Im Go.Im.Limbs Go.Im.Dec Go.Proofs Go.RowKit Hd N1 N10 N12 N13 R1 R3 R4 P1
set_option maxRecDepth 100000
theorem num_run (h:Heap) {v:Value} {m k:Nat} {s:Bool} (hv:RatV h v m s k) (hk:k≠0) (h1:m < 10 ^ 3000) (h2:k < 10 ^ 3000):Runs K 74 #[v] h fun r _=>r=numA s m k:=by
 have hv0:=hv
 obtain ⟨p,q,rfl,hp,hq⟩:=hv0
 obtain ⟨a,n,c,rfl⟩:=natv_slice hp
 obtain ⟨a',n',c',rfl⟩:=natv_slice hq
 refine Runs.of Kok (Does.intro rfl (by decide +kernel) Tryz.func74 rfl ?_)
 obtain ⟨w0,e0,x0,hs0,z0,z1⟩:=lay2 h (.cells [.slice a n c,.bool s,.slice a' n' c'] 3) (.cells [.bool false,.string ByteArray.empty,.string ByteArray.empty] 3)
 have j1:h.size≤h.size+1:=by omega
 simp +decide only [go_sem,WR,WS,e0,z0]
 refine W_call Kok x0.1 (neg_run w0 (m:=m) ⟨.slice a n c,rfl,hp.ext x0⟩) fun r w1 x1 hr=> ?_
 subst hr
 have y0:∀ {w:Heap},Ext w0 w→w.get h.size=_:=fun k=>(k.2 _ (by omega)).trans z0
 simp +decide only [go_sem,WR,WS,y0 x1]
 refine W_call Kok (x0.trans x1).1 (ntext_run m w1 (hp.ext (x0.trans x1)) h1) fun r w2 x2 hr=> ?_
 subst hr
 have k2:=x1.trans x2
 simp +decide only [go_sem,WR,WS,y0 k2]
 refine W_call Kok (x0.trans k2).1 (down_run w2 (hv.ext (x0.trans k2)) hk) fun r w3 x3 hr=> ?_
 have hr0:=hr
 obtain ⟨a3,n3,c3,rfl,_⟩:=hr0
 have k3:=k2.trans x3
 simp +decide only [go_sem,WR,WS]
 refine W_call Kok (x0.trans k3).1 (ntext_run k w3 hr h2) fun r w4 x4 hr=> ?_
 subst hr
 have k4:=k3.trans x4
 have y1:w4.get (h.size+1)=_:=(k4.2 _ (by omega)).trans z1
 obtain ⟨w5,e5,x5,hs5,z5,_⟩:=put1 (x0.trans k4) j1 (.cells [.bool s,.string (text (ds m)),.string (text (ds k))] 3)
 simp +decide only [go_sem,WR,WS,y1,j1,e5,z5]
 rfl
theorem lay118:eqlay Tryz.prog 118=some [(.bool,0),(.string,1),(.string,2)]:=by kernel_rfl
theorem eq118 {x y:Array Value}:ibinop Tryz.prog .eql 118 (.agg x) (.agg y)=eqst (some [(.bool,0),(.string,1),(.string,2)]) .eql x y:=ibinop_agg lay118 fun _ _=>rfl
theorem big_j {m j:Nat} (h:(ds m).length≤j):m < 10 ^ j:=Nat.lt_of_lt_of_le (ds_lt_pow m) (Nat.pow_le_pow_right (by omega) h)
theorem big_ds {m:Nat} (h:(ds m).length≤2000):m < 10 ^ 3000:=big_j (j:=3000) (Nat.le_trans h (by decide))
set_option maxHeartbeats 2000000 in
theorem rof_run (m k:Nat) (s:Bool) (h:Heap) (hk:k≠0) (hg:Nat.gcd m k=1) (hsm:s=true→m≠0) (h1:(ds m).length≤2000) (h2:(ds k).length≤2000) :
  Runs K 100 #[numA s m k] h fun r w=>∃ v,r= .tuple #[v,.bool true]∧RatV w v m s k:=by
 refine Runs.of Kok (Does.intro rfl (by decide +kernel) Tryz.func100 rfl ?_)
 obtain ⟨w0,e0,x0,hs0,z0,z1⟩:=lay2 h (.cells [.bool s,.string (text (ds m)),.string (text (ds k))] 3) (.cells [.slice none 0 0,.bool false,.slice none 0 0] 3)
 have j1:h.size≤h.size+1:=by omega
 have y0:∀ {w:Heap},Ext w0 w→w.get h.size=_:=fun k=>(k.2 _ (by omega)).trans z0
 have y1:∀ {w:Heap},Ext w0 w→w.get (h.size+1)=_:=fun k=>(k.2 _ (by omega)).trans z1
 have b1:=big_ds h1
 have b2:=big_ds h2
 have d1:(dig m).length≤549755813:=Nat.le_trans (dig_ten b1) (by omega)
 have d2:(dig k).length≤549755813:=Nat.le_trans (dig_ten b2) (by omega)
 simp +decide only [go_sem,WR,WS,numA,e0,z0]
 refine W_call Kok x0.1 (parse_run (ds m) w0 (ds_digs m) (ds_ne m) h1) fun r w1 x1 hr=> ?_
 obtain ⟨q,rfl,nq⟩:=hr
 rw [dec_ds] at nq
 obtain ⟨a,c,rfl,_⟩:=nq.open
 obtain ⟨w2,e2,x2,hs2,z2⟩:=lay1 w1 (.cells [.slice none 0 0] 1)
 obtain ⟨w3,e3,x3,hs3,z3,_⟩:=put1 x2 (Nat.le_refl w1.size) (.cells [.slice a (dig m).length c] 1)
 have K1:=x0.trans x1
 have l1:h.size≤w1.size:=K1.1
 have k3:=x1.trans x3
 simp +decide only [go_sem,WR,WS,e2,z2,l1,e3,y0 k3]
 refine W_call Kok (x0.trans k3).1 (parse_run (ds k) w3 (ds_digs k) (ds_ne k) h2) fun r w4 x4 hr=> ?_
 obtain ⟨q2,rfl,nq2⟩:=hr
 rw [dec_ds] at nq2
 obtain ⟨a',c',rfl,_⟩:=nq2.open
 obtain ⟨w5,e5,x5,hs5,z5⟩:=lay1 w4 (.cells [.slice none 0 0] 1)
 obtain ⟨w6,e6,x6,hs6,z6,_⟩:=put1 x5 (Nat.le_refl w4.size) (.cells [.slice a' (dig k).length c'] 1)
 have k4:=k3.trans x4
 have l4:h.size≤w4.size:=(x0.trans k4).1
 have k6:=k4.trans x6
 have l14:w1.size < w4.size:=by have:=x4.1;omega
 have z36:∀ {w:Heap},Ext w6 w→w.get w1.size=_:=fun k=>((x4.trans (x6.trans k)).2 _ (by omega)).trans z3
 have z66:∀ {w:Heap},Ext w6 w→w.get w4.size=_:=fun k=>(k.2 _ (by omega)).trans z6
 have r6:=Ext.refl w6
 simp +decide only [go_sem,WR,WS,e5,z5,l4,e6,y0 k6,z36 r6]
 refine W_call Kok (x0.trans k6).1 (wof_run w6 s (nq.ext (x3.trans (x4.trans x6)))) fun r w7 x7 hr=> ?_
 have hr7:=hr
 obtain ⟨p7,rfl,np7⟩:=hr7
 obtain ⟨a7,n7,c7,rfl⟩:=natv_slice np7
 simp +decide only [go_sem,WR,WS,z66 x7]
 refine W_call Kok (x0.trans (k6.trans x7)).1 (wof_run w7 false (nq2.ext (x6.trans x7))) fun r w8 x8 hr2=> ?_
 have hr8:=hr2
 obtain ⟨p8,rfl,np8⟩:=hr8
 obtain ⟨a8,n8,c8,rfl⟩:=natv_slice np8
 have hs1:(s && decide (m≠0))=s:=by
  cases s with
  | false=>rfl
  | true=>simp [hsm rfl]
 rw [hs1] at hr
 have hs2':(false && decide (k≠0))=false:=rfl
 rw [hs2'] at hr2
 have nr:=new_run w8 (hr.ext x8) hr2 hk d1 d2
 rw [hg,Nat.div_one,Nat.div_one] at nr
 have hs3':((s != false) && decide (m≠0))=s:=by
  cases s with
  | false=>rfl
  | true=>simp [hsm rfl]
 rw [hs3'] at nr
 simp +decide only [go_sem,WR,WS,hs1]
 refine W_call Kok (x0.trans (k6.trans (x7.trans x8))).1 nr fun r w9 x9 hr=> ?_
 obtain ⟨u,rfl,ru⟩:=hr
 have k9:=k6.trans (x7.trans (x8.trans x9))
 have K9:=x0.trans k9
 have l9:h.size≤w9.size:=K9.1
 have ru0:=ru
 obtain ⟨p9,q9,rfl,np9,nq9⟩:=ru0
 obtain ⟨ap,np',cp,rfl⟩:=natv_slice np9
 obtain ⟨aq,nq',cq,rfl⟩:=natv_slice nq9
 obtain ⟨w10,e10,x10,hs10,z10⟩:=lay1 w9 (.cells [.slice none 0 0,.bool false,.slice none 0 0] 3)
 obtain ⟨w11,e11,x11,hs11,z11,_⟩:=put1 x10 (Nat.le_refl w9.size) (.cells [.slice ap np' cp,.bool s,.slice aq nq' cq] 3)
 simp +decide only [go_sem,WR,WS,e10,z10,l9,e11,z11]
 refine W_call Kok (K9.trans x11).1 (num_run w11 (ru.ext x11) hk b1 b2) fun r w12 x12 hr=> ?_
 subst hr
 have k12:=k9.trans (x11.trans x12)
 obtain ⟨w13,e13,x13,hs13,z13,k13⟩:=put1 (x0.trans k12) j1 (.cells [.slice ap np' cp,.bool s,.slice aq nq' cq] 3)
 have b9:h.size < w11.size:=by have:=k9.1;have:=x11.1;omega
 simp +decide only [go_sem,WR,WS,numA,eq118,y0 k12,y1 k12,j1,e13]
 refine W_chk ?_ ?_
 ·simp +decide only [go_sem,WR,WS,b9]
  simp
 simp +decide only [go_sem,WR,WS,z13]
 exact ⟨_,rfl,(ru.ext (x11.trans x12)).over (y1 k12) (by rfl) (by rfl) hs13 z13 k13⟩
theorem one_t {n:Nat}:(text (ds n)=(⟨#[49]⟩:ByteArray))=(n=1):=propext ⟨fun h=>ds_inj.1 ((text_inj.1 (h.trans (show (⟨#[49]⟩:ByteArray)=text [49] from rfl))).trans ds_one.symm),fun h=>by subst h;rw [ds_one];rfl⟩
theorem right1_run (t:List UInt8) (h:Heap) (hl:t.length≤1000):Runs K 124 #[.string (text t)] h fun r w=>h=w∧∃ b,r= .bool b∧(b=true→Digs t∧t≠[]):=by
 refine Runs.of Kok (Does.intro rfl (by decide +kernel) Tryz.func124 rfl ?_)
 simp +decide only [go_sem,WR,WS]
 refine W_loop (α:=Nat) (fun k e w=>k≤t.length∧e.size=32∧h=w∧e.get 0= .string (text t)∧e.get 3= .int .i64 (k:Int)∧Digs (t.take k)) (fun k=>t.length - k) 0 ?_ ?_
 ·exact ⟨Nat.zero_le _,by simp +decide only [go_sem],rfl,by simp +decide only [go_sem],by simp +decide only [go_sem];rfl,by intro b hb;simp at hb⟩
 rintro k e w ⟨hk,hsz,hw,e0,e3,hd⟩ next
 subst hw
 by_cases hkl:(k:Int) < ((t.length:Nat):Int)
 ·obtain ⟨x,hx⟩:∃ x,t[k]? =some x:=⟨_,List.getElem?_eq_getElem (by omega)⟩
  have h2:(k:Int)≤2000:=by omega
  have cx:=ichar_text hx
  have c0:(0:Int)≤(k:Int):=by omega
  have i1:IntKind.i64.wrap ((k:Int)+1)=((k+1:Nat):Int):=by rw [wrap_i64 (by omega) (by omega)];omega
  by_cases q1:(x.toNat:Int) < 48
  ·simp +decide only [go_sem,WR,WS,hsz,e0,e3,hkl,h2,c0,Int.toNat_natCast,cx,q1]
   exact ⟨_,rfl,fun hh=>by cases hh⟩
  ·by_cases q2:(57:Int) < (x.toNat:Int)
   ·simp +decide only [go_sem,WR,WS,hsz,e0,e3,hkl,h2,c0,Int.toNat_natCast,cx,q1,q2]
    exact ⟨_,rfl,fun hh=>by cases hh⟩
   ·simp +decide only [go_sem,WR,WS,hsz,e0,e3,hkl,h2,c0,Int.toNat_natCast,cx,q1,q2,i1]
    refine next (k+1) _ _ ⟨by omega,by simp +decide only [go_sem,hsz],rfl,by simp +decide only [go_sem,hsz,e0],by simp +decide only [go_sem,hsz],?_⟩ (by omega)
    intro b hb
    rw [List.take_add_one,hx,List.mem_append] at hb
    rcases hb with hb | hb
    ·exact hd b hb
    ·simp only [Option.toList_some,List.mem_singleton] at hb
     subst hb
     omega
 ·have hkt:t.take k=t:=List.take_of_length_le (by omega)
  rw [hkt] at hd
  by_cases h1:(1:Int)≤((t.length:Nat):Int)
  ·simp +decide only [go_sem,WR,WS,hsz,e0,e3,hkl,h1]
   exact ⟨_,rfl,fun _=>⟨hd,by intro hh;subst hh;simp at h1⟩⟩
  ·simp +decide only [go_sem,WR,WS,hsz,e0,e3,hkl,h1]
   exact ⟨_,rfl,fun hh=>by cases hh⟩
def RightN (s:Bool) (a b:List UInt8):Prop:=∃ m k,a=ds m∧b=ds k∧k≠0∧Nat.gcd m k=1∧(s=true→m≠0)
theorem right_run (s:Bool) (a b:List UInt8) (h:Heap) (ha:a.length≤1000) (hb:b.length≤1000):Runs K 99 #[.agg #[.bool s,.string (text a),.string (text b)]] h fun r w=>∃ x,r= .bool x∧(x=true→RightN s a b):=by
 refine Runs.of Kok (Does.intro rfl (by decide +kernel) Tryz.func99 rfl ?_)
 obtain ⟨w0,e0,x0,hs0,z0⟩:=lay1 h (.cells [.bool s,.string (text a),.string (text b)] 3)
 have y0:∀ {w:Heap},Ext w0 w→w.get h.size=_:=fun k=>(k.2 _ (by omega)).trans z0
 have no:∃ x,Value.bool false= .bool x∧(x=true→RightN s a b):=⟨_,rfl,fun hh=>by cases hh⟩
 simp +decide only [go_sem,WR,WS,e0,z0]
 refine W_call Kok x0.1 (right1_run a w0 ha) fun r w x hr=> ?_
 obtain ⟨hw,b1,rfl,hb1⟩:=hr
 subst hw
 cases b1
 ·simp +decide only [go_sem,WR,WS]
  exact no
 obtain ⟨da,na⟩:=hb1 rfl
 simp +decide only [go_sem,WR,WS,z0]
 refine W_call Kok x0.1 (right1_run b w0 hb) fun r w x hr=> ?_
 obtain ⟨hw,b2,rfl,hb2⟩:=hr
 subst hw
 cases b2
 ·simp +decide only [go_sem,WR,WS]
  exact no
 obtain ⟨db,nb⟩:=hb2 rfl
 simp +decide only [go_sem,WR,WS,z0]
 refine W_call Kok x0.1 (trim_ds_run da na w0 (by omega)) fun r w1 x1 hr=> ?_
 subst hr
 by_cases ea:text (ds (dec a))=text a
 case neg =>
  simp +decide only [go_sem,WR,WS,y0 x1,ea]
  exact no
 have ea':a=ds (dec a):=(text_inj.1 ea).symm
 simp +decide only [go_sem,WR,WS,y0 x1,eq_true ea]
 refine W_call Kok (x0.trans x1).1 (trim_ds_run db nb w1 (by omega)) fun r w2 x2 hr=> ?_
 subst hr
 have k2:=x1.trans x2
 by_cases eb:text (ds (dec b))=text b
 case neg =>
  simp +decide only [go_sem,WR,WS,y0 k2,eb]
  exact no
 have eb':b=ds (dec b):=(text_inj.1 eb).symm
 have zb:(text b=(⟨#[48]⟩:ByteArray))=(dec b=0):=by rw [eb'];rw [dec_ds];exact zt
 have za:(text a=(⟨#[48]⟩:ByteArray))=(dec a=0):=by rw [ea'];rw [dec_ds];exact zt
 by_cases b0:dec b=0
 ·simp +decide only [go_sem,WR,WS,y0 k2,eq_true eb,zb,eq_true b0]
  exact no
 have gr:=gcd_run (dec a) (dec b) w2 (by rw [← ea'];omega) (by rw [← eb'];omega)
 rw [← ea',← eb'] at gr
 simp +decide only [go_sem,WR,WS,y0 k2,eq_true eb,zb,b0]
 refine W_call Kok (x0.trans k2).1 gr fun r w3 x3 hr=> ?_
 subst hr
 have k3:=k2.trans x3
 by_cases g1:Nat.gcd (dec a) (dec b)=1
 case neg =>
  simp +decide only [go_sem,WR,WS,y0 k3,one_t,g1]
  exact no
 cases s
 ·simp +decide only [go_sem,WR,WS,y0 k3,one_t,g1]
  exact ⟨_,rfl,fun _=>⟨dec a,dec b,ea',eb',b0,g1,fun hh=>by cases hh⟩⟩
 ·simp +decide only [go_sem,WR,WS,y0 k3,one_t,g1,za]
  refine ⟨_,rfl,fun hh=>⟨dec a,dec b,ea',eb',b0,g1,fun _=> ?_⟩⟩
  simpa using hh
end Go.Proofs.YtachkofbmodnnaaGreatDoor.P2
