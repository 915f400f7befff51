/- Proved here: parts of the way to CTokenCuts (CV10 CV11 CV12); no condition beyond those that each theorem names. -/
import Derived.Test.YtjlaenglmdpboaaGreatK15
import Derived.Test.YtjlaenglmdpboaaGreatK12
set_option linter.unusedSimpArgs false
set_option linter.unusedVariables false
namespace Go.Im.Lexing
open Go.Im.Limbs Go.Im.Arrays Go.Im.Dec Go.Proofs.YtjlaenglmdpboaaGreat.R8 Go.Proofs.YtjlaenglmdpboaaGreat.N13
theorem sl_rat {h:Heap} {a:Option Addr} {n c i:Nat} {qs:List (List Value)} {xs:List R3} {x:R3} (s:Sl h 3 a n c qs.flatten) (R:RatsV h qs xs) (hn:n=xs.length) (hx:xs[i]? =some x) :
  ∃ b o cs p r,a=some ⟨b,o,none⟩∧b < h.size∧(h.get b).read= .cells cs 3∧(cs.drop (o+i*3)).take 3=[p,.bool x.1,r]∧o+i*3+3≤cs.length∧NatV h (.agg #[p]) x.2.1∧NatV h (.agg #[r]) x.2.2:=by
 have hi:i < n:=by rw [hn];exact (List.getElem?_eq_some_iff.1 hx).1
 obtain ⟨q,e,p,r,rfl,h1,h2⟩:=R.at hx
 obtain ⟨b,o,cs,g1,g2,g3,g4,g5⟩:=s.at hi
 refine ⟨b,o,cs,p,r,g1,g2,g3,?_,by omega,h1,h2⟩
 rw [g5,List.drop_take,List.drop_drop,List.take_take] at e
 rw [← e]
 congr 1
 omega
theorem qcs_length (l:List R3):(qcs l).length=l.length*3:=by
 induction l with
 | nil=>rfl
 | cons x l ih=>simp only [qcs,List.flatMap_cons,List.length_append,List.length_cons,List.length_nil] at ih ⊢;omega
theorem qcs_at:∀ {l:List R3} {i:Nat} {x:R3},l[i]? =some x→((qcs l).drop (i*3)).take 3=[.bool x.1,.string (text (ds x.2.1)),.string (text (ds x.2.2))]
 | [],i,x,h=>by simp at h
 | y::l,0,x,h=>by
   cases h
   rfl
 | y::l,i+1,x,h=>by
   have:=qcs_at (show l[i]? =some x from h)
   rw [← this,show (i+1)*3=3+i*3 by omega,← List.drop_drop]
   rfl
theorem sl_qcs {h:Heap} {a:Option Addr} {c i:Nat} {l:List R3} (s:Sl h 3 a l.length c (qcs l)) {x:R3} (hx:l[i]? =some x) :
  ∃ b o cs,a=some ⟨b,o,none⟩∧b < h.size∧(h.get b).read= .cells cs 3∧(cs.drop (o+i*3)).take 3=[.bool x.1,.string (text (ds x.2.1)),.string (text (ds x.2.2))]∧o+i*3+3≤cs.length:=by
 have hi:i < l.length:=(List.getElem?_eq_some_iff.1 hx).1
 have e:=qcs_at hx
 obtain ⟨b,o,cs,g1,g2,g3,g4,g5⟩:=s.at hi
 refine ⟨b,o,cs,g1,g2,g3,?_,by omega⟩
 rw [g5,List.drop_take,List.drop_drop,List.take_take] at e
 rw [← e]
 congr 1
 omega
end Go.Im.Lexing
namespace Go.Proofs.YtjlaenglmdpboaaGreat.V10
open Go Go.Im Go.Im.Limbs Go.Im.Dec Go.Im.Lexing Go.Im.Arrays Go.Proofs Go.RowKit Hd N13 R4 R8 V20
set_option maxRecDepth 100000
theorem gshape_run (p:AT) (h:Heap) {rest:List Value} (V:AG h rest p) (hn:p.shape.length≤1000):Runs K 80 #[.agg rest.toArray] h fun r w=>∃ a c,r= .slice a p.shape.length c∧Sl w 1 a p.shape.length c (iv p.shape):=by
 obtain ⟨a,c,a1,c1,a2,c2,qs,rfl,s1,_⟩:=V
 refine Runs.of Kok (Does.intro rfl (by decide +kernel) Tryz.func80 rfl ?_)
 obtain ⟨w1,e1,x1,hs1,z1⟩:=lay1 h (.cells [.slice a p.shape.length c,.bool p.ch,.slice a1 p.tx.length c1,.slice a2 p.nums.length c2,.bool true] 5)
 simp +decide only [go_sem,WR,WS,e1,z1]
 refine W_call Kok x1.1 (clonei_run w1 (s1.ext x1) (by omega)) fun r w2 x2 hr=> ?_
 obtain ⟨sa,sc,rfl,ss⟩:=hr
 simp +decide only [go_sem,WR,WS]
 exact ⟨_,_,rfl,ss⟩
theorem grunes_run (p:AT) (h:Heap) {rest:List Value} (V:AG h rest p) (hn:p.tx.length≤1000000):Runs K 81 #[.agg rest.toArray] h fun r w=>∃ a c,r= .slice a p.tx.length c∧Sl w 1 a p.tx.length c (rv p.tx):=by
 obtain ⟨a,c,a1,c1,a2,c2,qs,rfl,s1,s2,_⟩:=V
 refine Runs.of Kok (Does.intro rfl (by decide +kernel) Tryz.func81 rfl ?_)
 obtain ⟨w1,e1,x1,hs1,z1⟩:=lay1 h (.cells [.slice a p.shape.length c,.bool p.ch,.slice a1 p.tx.length c1,.slice a2 p.nums.length c2,.bool true] 5)
 simp +decide only [go_sem,WR,WS,e1,z1]
 refine W_call Kok x1.1 (cloner_run w1 (s2.ext x1) hn) fun r w2 x2 hr=> ?_
 obtain ⟨sa,sc,rfl,ss⟩:=hr
 simp +decide only [go_sem,WR,WS]
 exact ⟨_,_,rfl,ss⟩
def FitsN (N:Nat) (x:R3):Prop:=x.2.2≠0∧x.2.1 < 10 ^ N∧x.2.2 < 10 ^ N
def Fits (x:R3):Prop:=FitsN 3000 x
set_option maxHeartbeats 4000000 in
theorem gplain_run (p:AT) (h:Heap) {rest:List Value} (V:AG h rest p) (hn:p.shape.length≤1000) (ht:p.tx.length≤1000000) (hm:p.nums.length≤1000000) (hf:∀ x ∈ p.nums,Fits x):Runs K 48 #[.agg rest.toArray] h fun r w=>∃ q,r= .agg q.toArray∧PG w q p:=by
 have V0:=V
 obtain ⟨a,c,a1,c1,a2,c2,qs,rfl,s1,s2,s3,R,_⟩:=V0
 refine Runs.of Kok (Does.intro rfl (by decide +kernel) Tryz.func48 rfl ?_)
 obtain ⟨w1,e1,x1,hs1,z1,y1⟩:=lay2 h (.cells [.slice a p.shape.length c,.bool p.ch,.slice a1 p.tx.length c1,.slice a2 p.nums.length c2,.bool true] 5) (.cells [.slice none 0 0,.bool false,.slice none 0 0,.slice none 0 0] 4)
 have zz:∀ {w:Heap},Ext w1 w→w.get h.size=_:=fun k=>(k.2 _ (by omega)).trans z1
 have yy:∀ {w:Heap},Ext w1 w→w.get (h.size+1)=_:=fun k=>(k.2 _ (by omega)).trans y1
 have jq:h.size≤h.size+1:=by omega
 simp +decide only [go_sem,WR,WS,e1,z1]
 refine W_call Kok x1.1 (gshape_run p w1 (V.ext x1) hn) fun r w2 x2 hr=> ?_
 obtain ⟨sa,sc,rfl,ss⟩:=hr
 simp +decide only [go_sem,WR,WS,zz x2]
 refine W_call Kok (x1.trans x2).1 (grunes_run p w2 (V.ext (x1.trans x2)) ht) fun r w3 x3 hr=> ?_
 obtain ⟨ta,tc,rfl,ts⟩:=hr
 have k3:=x2.trans x3
 have K3:=x1.trans k3
 have l3:h.size≤w3.size:=K3.1
 obtain ⟨w4,e4,x4,hs4,z4⟩:=lay1 w3 (.cells [.slice none 0 0,.bool false,.slice none 0 0,.slice none 0 0] 4)
 obtain ⟨w5,e5,x5,hs5,z5,_⟩:=put1 x4 (Nat.le_refl w3.size) (.cells [.slice sa p.shape.length sc,.bool p.ch,.slice ta p.tx.length tc,.slice none 0 0] 4)
 have k5:=k3.trans x5
 simp +decide only [go_sem,WR,WS,e4,z4,l3,e5,zz k5]
 refine W_loop (α:=Nat × Value) (fun k e w=>k.1≤p.nums.length∧e.size=29∧Ext w3 w∧w3.size < w.size∧w.get w3.size= .cells [.slice sa p.shape.length sc,.bool p.ch,.slice ta p.tx.length tc,k.2] 4∧Own w3.size w 3 k.2 k.1 (qcs (p.nums.take k.1)) ∧
  e.get 2= .pointer (some ⟨h.size+1,0,none⟩)∧e.get 3= .pointer (some ⟨w3.size,0,none⟩)∧e.get 14= .slice a2 p.nums.length c2∧e.get 15= .int .i64 ((p.nums.length:Nat):Int)∧e.get 16= .int .i64 (k.1:Int)) (fun k=>p.nums.length - k.1) (0,.slice none 0 0) ?_ ?_
 ·exact ⟨Nat.zero_le _,by simp +decide only [go_sem],x5,by omega,z5,Own.nil _ _ _,by simp +decide only [go_sem],by simp +decide only [go_sem],by simp +decide only [go_sem],by simp +decide only [go_sem],by simp +decide only [go_sem];rfl⟩
 rintro ⟨i,nv⟩ e w ⟨hi,hsz,hxw,hws,gw,own,e2,e3,e14,e15,e16⟩ next
 simp only at hi gw own e16
 obtain ⟨na,nc,rfl⟩:=own.shape
 by_cases hil:(i:Int) < ((p.nums.length:Nat):Int)
 ·obtain ⟨x,hx⟩:∃ x,p.nums[i]? =some x:=⟨_,List.getElem?_eq_getElem (by omega)⟩
  have hfx:=hf x (List.mem_of_getElem? hx)
  have c0:(0:Int)≤(i:Int):=by omega
  have i1:IntKind.i64.wrap ((i:Int)+1)=((i+1:Nat):Int):=by rw [wrap_i64 (by omega) (by omega)];omega
  have Kw:=K3.trans hxw
  obtain ⟨b,o,cs,pp,rr,rfl,g2,g3,g4,g5,n1,n2⟩:=sl_rat (s3.ext Kw) (R.mono fun q x ⟨p',r',q1,q2,q3⟩=>⟨p',r',q1,q2.ext Kw,q3.ext Kw⟩) rfl hx
  obtain ⟨pa,pn,pc,rfl⟩:=natv_slice n1
  obtain ⟨ra,rn,rc,rfl⟩:=natv_slice n2
  obtain ⟨w6,e6,x6,hs6,z6⟩:=lay1 w (.cells [.slice none 0 0,.bool false,.slice none 0 0] 3)
  obtain ⟨w7,e7,x7,hs7,z7,_⟩:=put1 x6 (Nat.le_refl w.size) (.cells [.slice pa pn pc,.bool x.1,.slice ra rn rc] 3)
  have gw7:w7.get w3.size=_:=(x7.2 _ hws).trans gw
  have lw:h.size≤w.size:=Kw.1
  simp +decide only [go_sem,WR,WS,hsz,e2,e3,e14,e15,e16,hil,c0,Int.toNat_natCast,g3,g4,g5,e6,z6,lw,e7,gw7,z7]
  refine W_call Kok (Kw.trans x7).1 (num_run w7 ⟨_,_,rfl,n1.ext x7,n2.ext x7⟩ hfx.1 hfx.2.1 hfx.2.2) fun r w8 x8 hr=> ?_
  subst hr
  have k8:=x7.trans x8
  obtain ⟨w9,e9,x9,hs9,z9⟩:=lay1 w8 (.cells [.bool x.1,.string (text (ds x.2.1)),.string (text (ds x.2.2))] 3)
  have k9:=k8.trans x9
  have gw8:w8.get w3.size=_:=(k8.2 _ hws).trans gw
  have gw9:w9.get w3.size=_:=(k9.2 _ hws).trans gw
  have own9:=own.ext k9
  have hlt9:w3.size < w9.size:=by have:=k9.1;omega
  obtain ⟨wa,wb,a1',a2',a3',a4',a5',a6',a7',a8',a9'⟩:=field_app ((Kw.trans k9)) (bytes:=40) (k:=1) (new:=[.bool x.1,.string (text (ds x.2.1)),.string (text (ds x.2.2))]) (own9.keep l3 fun b hb _=>⟨rfl,hb⟩) l3 hlt9 gw9 (by omega) (by omega) (by omega) rfl (by omega) (by omega) (fun v=>[.slice sa p.shape.length sc,.bool p.ch,.slice ta p.tx.length tc,v])
  simp +decide only [go_sem,WR,WS,numA,hsz,e3,e16,gw8,e9,z9,l3,gw9,a1',a2',a3',a4',i1]
  refine next (i+1,.slice (some ⟨w9.size,0,none⟩) (i+1) big) _ _ ⟨by simp only;omega,by simp +decide only [go_sem,hsz],⟨by omega,fun b hb=> ?_⟩,by omega,a7',?_,by simp +decide only [go_sem,hsz,e2],by simp +decide only [go_sem,hsz,e3],by simp +decide only [go_sem,hsz,e14],by simp +decide only [go_sem,hsz,e15],by simp +decide only [go_sem,hsz]⟩ (by simp only;omega)
  ·rw [a9' b (by omega) (by omega) ?_,(hxw.trans k9).2 b hb]
   rcases own9 with ⟨hh,_⟩ | ⟨b',hh,q1,_⟩
   ·cases hh
    simp [vblk]
   ·cases hh
    simp only [vblk,ne_eq,Option.some.injEq]
    omega
  ·rcases a8' with ⟨hh,_⟩ | ⟨b',hh,q1,q2,q3,q4⟩
   ·cases hh
   ·cases hh
    refine .inr ⟨_,rfl,by omega,q2,?_,?_⟩
    ·rw [q3,List.take_add_one,hx,qcs_append]
     rfl
    ·rw [qcs_length,List.length_take]
     simp only
     omega
 ·have hin:i=p.nums.length:=by omega
  subst hin
  rw [List.take_length] at own
  have yw:=yy (k3.trans hxw)
  obtain ⟨w6,e6,x6,hs6,z6,_⟩:=put1 (K3.trans hxw) jq (.cells [.slice sa p.shape.length sc,.bool p.ch,.slice ta p.tx.length tc,.slice na p.nums.length nc] 4)
  simp +decide only [go_sem,WR,WS,hsz,e2,e3,e14,e15,e16,hil,gw,yw,jq,e6,z6]
  refine ⟨_,rfl,?_⟩
  rw [← e6]
  exact PG.set yw rfl (by have:=hxw.1;have:=k3.1;omega) (by omega) (by omega) ⟨_,_,_,_,_,_,rfl,ss.ext (x3.trans hxw),ts.ext hxw,own.sl⟩
set_option maxHeartbeats 4000000 in
theorem gsame_run (p:AT) (h:Heap) {q q':List Value} (V:PG h q p) (U:PG h q' p) (h1:p.shape.length≤1000000) (h2:p.tx.length≤1000000) (h3:p.nums.length≤1000000):Runs K 47 #[.agg q.toArray,.agg q'.toArray] h fun r w=>r= .bool true:=by
 obtain ⟨a,c,a1,c1,a2,c2,rfl,s1,s2,s3⟩:=V
 obtain ⟨b,d,b1,d1,b2,d2,rfl,t1,t2,t3⟩:=U
 obtain ⟨shape,ch,tx,nums⟩:=p
 simp only at s1 s2 s3 t1 t2 t3 h1 h2 h3 ⊢
 refine Runs.of Kok (Does.intro rfl (by decide +kernel) Tryz.func47 rfl ?_)
 obtain ⟨w0,e0,x0,hs0,z0,y0⟩:=lay2 h (.cells [.slice a shape.length c,.bool ch,.slice a1 tx.length c1,.slice a2 nums.length c2] 4) (.cells [.slice b shape.length d,.bool ch,.slice b1 tx.length d1,.slice b2 nums.length d2] 4)
 have is:=isame_run shape w0 (s1.ext x0) (t1.ext x0) h1
 have rs:=rsame_run tx w0 (s2.ext x0) (t2.ext x0) h2
 have u3:=s3.ext x0
 have v3:=t3.ext x0
 cases ch
 all_goals
  simp +decide only [go_sem,WR,WS,e0,z0,y0]
  refine W_call Kok x0.1 is fun r w x hr=> ?_
  obtain ⟨hw,rfl⟩:=hr
  subst hw
  simp +decide only [go_sem,WR,WS,z0,y0]
  refine W_call Kok x0.1 rs fun r w x hr=> ?_
  obtain ⟨hw,rfl⟩:=hr
  subst hw
  simp +decide only [go_sem,WR,WS,z0,y0]
  refine W_loop (α:=Nat) (fun i e w=>i≤nums.length∧e.size=54∧w0=w∧e.get 2= .pointer (some ⟨h.size,0,none⟩)∧e.get 3= .pointer (some ⟨h.size+1,0,none⟩)∧e.get 5= .int .i64 (i:Int)) (fun i=>nums.length - i) 0 ?_ ?_
  ·exact ⟨Nat.zero_le _,by simp +decide only [go_sem],rfl,by simp +decide only [go_sem],by simp +decide only [go_sem],by simp +decide only [go_sem];rfl⟩
  rintro i e w ⟨hi,hsz,hw,e2,e3,e5⟩ next
  subst hw
  by_cases hil:(i:Int) < ((nums.length:Nat):Int)
  ·obtain ⟨x,hx⟩:∃ x,nums[i]? =some x:=⟨_,List.getElem?_eq_getElem (by omega)⟩
   obtain ⟨b5,o5,cs5,hh5,p1,p2,p3,p4⟩:=sl_qcs u3 hx
   obtain ⟨b6,o6,cs6,hh6,r1,r2,r3,r4⟩:=sl_qcs v3 hx
   have c0:(0:Int)≤(i:Int):=by omega
   have i1:IntKind.i64.wrap ((i:Int)+1)=((i+1:Nat):Int):=by rw [wrap_i64 (by omega) (by omega)];omega
   simp +decide only [go_sem,WR,WS,hsz,e2,e3,e5,hil,c0,z0,y0,Int.toNat_natCast,hh5,hh6,p2,p3,p4,r2,r3,r4,ne118,i1]
   exact next (i+1) _ _ ⟨by omega,by simp +decide only [go_sem,hsz],rfl,by simp +decide only [go_sem,hsz,e2],by simp +decide only [go_sem,hsz,e3],by simp +decide only [go_sem,hsz]⟩ (by omega)
  ·simp +decide only [go_sem,WR,WS,hsz,e2,e3,e5,hil,z0,y0]
end Go.Proofs.YtjlaenglmdpboaaGreat.V10
namespace Go.Proofs.YtjlaenglmdpboaaGreat.V11
open Go Go.Im Go.Im.Limbs Go.Im.Dec Go.Im.Lexing Go.Im.Arrays Go.Proofs Go.RowKit N12 N14 N16 N17 V10
theorem scM_lt {m a b N:Nat} {e:Int} (hm:m < 10 ^ a) (he:e.toNat≤b) (hN:a+b≤N):scM m e < 10 ^ N:=by
 have hp:10 ^ (a+b)≤10 ^ N:=Nat.pow_le_pow_right (by omega) hN
 unfold scM
 split
 ·refine Nat.lt_of_lt_of_le ?_ hp
  rw [Nat.pow_add]
  exact Nat.lt_of_lt_of_le (Nat.mul_lt_mul_of_pos_right hm (Nat.pow_pos (by omega))) (Nat.mul_le_mul_left _ (Nat.pow_le_pow_right (by omega) he))
 ·refine Nat.lt_of_le_of_lt (Nat.div_le_self _ _) (Nat.lt_of_lt_of_le hm (Nat.pow_le_pow_right (by omega) (by omega)))
theorem scK_lt {m b N:Nat} {e:Int} (he:(-e).toNat≤b) (hN:b < N):scK m e < 10 ^ N∧scK m e≠0:=by
 have h1:1 < 10 ^ N:=Nat.one_lt_pow (by omega) (by omega)
 unfold scK
 split
 ·exact ⟨h1,by omega⟩
 ·have h0:0 < 10 ^ (-e).toNat:=Nat.pow_pos (by omega)
  refine ⟨Nat.lt_of_le_of_lt (Nat.div_le_self _ _) (Nat.pow_lt_pow_right (by omega) (by omega)),?_⟩
  exact Nat.pos_iff_ne_zero.1 (Nat.div_pos (Nat.le_of_dvd h0 (Nat.gcd_dvd_right _ _)) (Nat.gcd_pos_of_pos_right _ h0))
theorem expo_le {s:List Int} {k:Nat} (h:expoS s=some k): -999≤expoN s∧expoN s≤999:=by
 unfold expoS at h
 unfold expoN
 split at h
 ·rename_i h0
  rw [if_pos h0]
  split at h
  ·cases h
  ·rename_i h1
   have h2:=dec_lt (digs_Digs (s.drop (1+hi (s.drop 1))))
   rw [dbs_length] at h2
   have h3:10 ^ (digs (s.drop (1+hi (s.drop 1)))).length≤10 ^ 3:=Nat.pow_le_pow_right (by omega) (by omega)
   have h4:dec (dbs (digs (s.drop (1+hi (s.drop 1))))) < 10 ^ 3:=Nat.lt_of_lt_of_le h2 h3
   have h5:(10:Nat) ^ 3=1000:=rfl
   split<;>omega
 ·rename_i h0
  rw [if_neg h0]
  omega
theorem tail_len (s:List Int):(tailS s).length=if pt (s.drop (hi s+(digs (s.drop (hi s))).length))=1 then (digs (s.drop (hi s+(digs (s.drop (hi s))).length+1))).length else 0:=by
 unfold tailS
 split<;>rfl
theorem tail_Digs (s:List Int):Digs (dbs (tailS s)):=by
 unfold tailS
 split
 ·exact digs_Digs _
 ·intro b hb
  simp [dbs] at hb
theorem read_fits {s:List Int} {k:Nat} (h:readS s=some k):Fits (rat3 (readN s)):=by
 unfold readS at h
 simp only [← tail_len] at h
 split at h
 ·cases h
 cases hx:expoS (s.drop (hi s+(digs (s.drop (hi s))).length+pt (s.drop (hi s+(digs (s.drop (hi s))).length))+(tailS s).length)) with
 | none =>
   rw [hx] at h
   cases h
 | some j =>
   rw [hx] at h
   simp only at h
   split at h
   ·cases h
   rename_i hd
   obtain ⟨e1,e2⟩:=expo_le hx
   have hD:Digs (dbs (digs (s.drop (hi s)))++dbs (tailS s)):=by
    intro u hu
    rcases List.mem_append.1 hu with hu | hu
    ·exact digs_Digs _ u hu
    ·exact tail_Digs s u hu
   have h1:=dec_lt hD
   rw [List.length_append,dbs_length,dbs_length] at h1
   obtain ⟨A,hA⟩:∃ A,A=200:=⟨_,rfl⟩
   obtain ⟨N,hN⟩:∃ N,N=3000:=⟨_,rfl⟩
   have h2:dec (dbs (digs (s.drop (hi s)))++dbs (tailS s)) < 10 ^ A:=Nat.lt_of_lt_of_le h1 (Nat.pow_le_pow_right (by omega) (by omega))
   have h3:=scM_lt (b:=999) (N:=N) (e:=expoN (s.drop (hi s+(digs (s.drop (hi s))).length+pt (s.drop (hi s+(digs (s.drop (hi s))).length))+(tailS s).length)) - ((tailS s).length:Int)) h2 (by omega) (by omega)
   have h4:=scK_lt (b:=1199) (N:=N) (m:=dec (dbs (digs (s.drop (hi s)))++dbs (tailS s))) (e:=expoN (s.drop (hi s+(digs (s.drop (hi s))).length+pt (s.drop (hi s+(digs (s.drop (hi s))).length))+(tailS s).length)) - ((tailS s).length:Int)) (by omega) (by omega)
   have h5:FitsN N (rat3 (readN s)):=by
    unfold FitsN rat3 ratM ratK readN
    dsimp only
    exact ⟨h4.2,h3,h4.1⟩
   rw [hN] at h5
   exact h5
theorem nums_fit:∀ (f:Nat) (s:List Int),∀ x ∈ numsL f s,Fits x
 | 0,s,x,hx=>by simp [numsL] at hx
 | f+1,s,x,hx=>by
   rw [numsL] at hx
   split at hx
   ·cases hr:readS s with
    | none =>
      rw [hr] at hx
      simp at hx
    | some k =>
      rw [hr] at hx
      simp only [List.mem_cons] at hx
      rcases hx with rfl | hx
      ·exact read_fits hr
      ·exact nums_fit f _ x hx
   ·simp at hx
theorem nums_len:∀ (f:Nat) (s:List Int),(numsL f s).length≤f
 | 0,s=>by simp [numsL]
 | f+1,s=>by
   rw [numsL]
   split
   ·cases hr:readS s with
    | none=>simp
    | some k =>
      simp only [List.length_cons]
      have:=nums_len f (s.drop (k+blanks (s.drop k)))
      omega
   ·simp
theorem text_len (s:List Int):(textL s).length≤s.length:=by
 induction s using textL.induct with
 | case1=>simp [textL]
 | case2 s ih =>
   simp only [textL,List.length_cons]
   omega
 | case3 s h' =>
   rw [textL]
   ·simp
   ·exact h'
 | case4 c s h1 h2 ih =>
   rw [textL]
   ·simp only [List.length_cons]
    omega
   ·exact h1
   ·exact h2
theorem val_small (l:List Int) (p:Nat) (hl:l.length≤1000):(valAt l p).shape.length≤1000∧(valAt l p).tx.length≤1000000∧(valAt l p).nums.length≤1000000∧∀ x ∈ (valAt l p).nums,Fits x:=by
 unfold valAt
 split
 ·refine ⟨?_,by simp [numsAT],?_,nums_fit 600 _⟩
  ·unfold numsAT
   simp only
   split<;>simp
  ·have:=nums_len 600 (l.drop p)
   show (numsL 600 (l.drop p)).length≤1000000
   omega
 ·refine ⟨?_,?_,by simp [textAT],by simp [textAT]⟩
  ·unfold textAT
   simp only
   split<;>simp
  ·have:=text_len (l.drop (p+1))
   rw [List.length_drop] at this
   show (textL (l.drop (p+1))).length≤1000000
   omega
end Go.Proofs.YtjlaenglmdpboaaGreat.V11
namespace Go.Proofs.YtjlaenglmdpboaaGreat.V12
open Go Go.Im Go.Im.Limbs Go.Im.Lexing Go.Im.Arrays Go.Proofs Go.RowKit Hd N18 N19 N23 N26 R8 R9 V7 V9 V10 V11
set_option maxRecDepth 100000
theorem tok_len8 {x:XT} (h:Arr4 x.2):(tc4 x.1++x.2).length=8:=by
 obtain ⟨a,n,c,b,a2,n2,c2,a3,n3,c3,h⟩:=h
 rw [h]
 rfl
theorem xcs_at8:∀ {xs:List XT} {i:Nat} {x:XT},(∀ x ∈ xs,Arr4 x.2)→xs[i]? =some x→((xcs xs).drop (i*8)).take 8=tc4 x.1++x.2
 | [],i,x,_,h=>by simp at h
 | y::xs,0,x,hA,h=>by
   cases h
   have h1:=tok_len8 (hA y (by simp))
   simp only [xcs,List.flatMap_cons,Nat.zero_mul,List.drop_zero]
   rw [← h1,List.take_left']
   rfl
 | y::xs,i+1,x,hA,h=>by
   have h1:=tok_len8 (hA y (by simp))
   have h2:=xcs_at8 (xs:=xs) (i:=i) (fun z hz=>hA z (by simp [hz])) (by simpa using h)
   rw [← h2]
   simp only [xcs,List.flatMap_cons]
   have:(i+1)*8=8+i*8:=by omega
   rw [this,← List.drop_drop,← h1,List.drop_left']
   rfl
theorem Sl.tok8 {h:Heap} {a:Option Addr} {n c i:Nat} {xs:List XT} {x:XT} (s:Sl h 8 a n c (xcs xs)) (hA:∀ x ∈ xs,Arr4 x.2) (hn:xs.length=n) (hx:xs[i]? =some x) :
  ∃ b o cs,a=some ⟨b,o,none⟩∧b < h.size∧(h.get b).read= .cells cs 8∧cs[o+i*8]? =some (.int .i64 (x.1.2.kind:Int))∧cs[o+i*8+1]? =some (.int .i64 (x.1.1:Int))∧cs[o+i*8+2]? =some (.string (runesBytes x.1.2.word)) ∧
    cs[o+i*8+3]? =some (.int .i32 x.1.2.sign)∧(cs.drop (o+i*8)).take 8=tc4 x.1++x.2∧o+i*8+8≤cs.length:=by
 have hi:i < n:=by rw [← hn];exact (List.getElem?_eq_some_iff.1 hx).1
 obtain ⟨b,o,cs,h1,h2,h3,h4,h5⟩:=s.at hi
 have h6:=xcs_at8 hA hx
 have h9:i*8+8≤n*8:=by omega
 rw [h5,List.drop_take,List.take_take,List.drop_drop,Nat.min_eq_left (by omega)] at h6
 have hj:∀ j,j < 8→cs[o+i*8+j]? =(tc4 x.1++x.2)[j]? :=by
  intro j hj
  rw [← h6,List.getElem?_take,if_pos hj,List.getElem?_drop]
 exact ⟨b,o,cs,h1,h2,h3,(hj 0 (by omega)).trans rfl,(hj 1 (by omega)).trans rfl,(hj 2 (by omega)).trans rfl,(hj 3 (by omega)).trans rfl,h6,by omega⟩
theorem rest9 {cs:List Value} {k:Nat} {x:XT} (p:(cs.drop k).take 9=tc4 x.1++x.2):(cs.drop (k+4)).take 5=x.2:=by
 have:=congrArg (List.drop 4) p
 rw [List.drop_take,List.drop_drop] at this
 exact this
theorem rest8 {cs:List Value} {k:Nat} {x:XT} (p:(cs.drop k).take 8=tc4 x.1++x.2):(cs.drop (k+4)).take 4=x.2:=by
 have:=congrArg (List.drop 4) p
 rw [List.drop_take,List.drop_drop] at this
 exact this
set_option maxHeartbeats 4000000 in
theorem lsame_run (l:List Int) (xs ys:List XT) (h:Heap) {a1:Option Addr} {c1:Nat} {a2:Option Addr} {c2:Nat} (hl:l.length≤1000) (s1:Sl h 9 a1 xs.length c1 (xcs xs)) (s2:Sl h 8 a2 xs.length c2 (xcs ys)) (hA:∀ x ∈ xs,TV l h x) (hB:∀ y ∈ ys,TR l h y) (he:xs.map (·.1)=ys.map (·.1)) (hn:xs.length≤1000) :
  Runs K 11 #[.slice a1 xs.length c1,.slice a2 xs.length c2] h fun r w=>r= .bool true:=by
 have hxy:ys.length=xs.length:=by
  have:=congrArg List.length he
  simpa using this.symm
 refine Runs.of Kok (Does.intro rfl (by decide +kernel) Tryz.func11 rfl ?_)
 simp +decide only [go_sem,WR,WS]
 refine W_loop (α:=Nat) (fun i e w=>i≤xs.length∧e.size=90∧Ext h w∧e.get 0= .slice a1 xs.length c1∧e.get 1= .slice a2 xs.length c2∧e.get 5= .int .i64 (i:Int)) (fun i=>xs.length - i) 0 ?_ ?_
 ·exact ⟨Nat.zero_le _,by simp +decide only [go_sem],Ext.refl _,by simp +decide only [go_sem],by simp +decide only [go_sem],by simp +decide only [go_sem];rfl⟩
 rintro i e w ⟨hi,hsz,hxw,e0,e1,e5⟩ next
 by_cases hil:(i:Int) < ((xs.length:Nat):Int)
 case neg =>
  simp +decide only [go_sem,WR,WS,hsz,e0,e1,e5,hil]
 obtain ⟨X,hX⟩:∃ X,xs[i]? =some X:=⟨_,List.getElem?_eq_getElem (by omega)⟩
 obtain ⟨Y,hY⟩:∃ Y,ys[i]? =some Y:=⟨_,List.getElem?_eq_getElem (by omega)⟩
 have hXY:Y.1=X.1:=by
  have h8:(xs.map (·.1))[i]? =(ys.map (·.1))[i]? :=by rw [he]
  rw [List.getElem?_map,List.getElem?_map,hX,hY] at h8
  simpa using h8.symm
 have hTX:=hA X (List.mem_of_getElem? hX)
 have hTY:=hB Y (List.mem_of_getElem? hY)
 obtain ⟨b1,o1,cs1,p1,p2,p3,p6,p7,p8,p9,p4,p5⟩:=Sl.tok (s1.ext hxw) (fun x hx=>(hA x hx).1) rfl hX
 obtain ⟨b2,o2,cs2,r1,r2,r3,r6,r7,r8,r9,r4,r5⟩:=Sl.tok8 (s2.ext hxw) (fun x hx=>(hB x hx).1) hxy hY
 rw [hXY] at r6 r7 r8 r9
 subst p1
 subst r1
 have c0:(0:Int)≤(i:Int):=by omega
 have i1:IntKind.i64.wrap ((i:Int)+1)=((i+1:Nat):Int):=by rw [wrap_i64 (by omega) (by omega)];omega
 have P4:=rest9 p4
 have R4:=rest8 r4
 have P5:o1+i*9+4+5≤cs1.length:=by omega
 have R5:o2+i*8+4+4≤cs2.length:=by omega
 by_cases hk:X.1.2.kind=1
 case neg =>
  have hk':¬ ((X.1.2.kind:Nat):Int)=1:=by omega
  simp +decide only [go_sem,WR,WS,hsz,e0,e1,e5,hil,c0,Int.toNat_natCast,List.append_eq,List.cons_append,List.nil_append,p3,p6,p7,p8,p9,r3,r6,r7,r8,r9,hk',i1]
  exact next (i+1) _ _ ⟨by omega,by simp +decide only [go_sem,hsz],hxw,by simp +decide only [go_sem,hsz,e0],by simp +decide only [go_sem,hsz,e1],by simp +decide only [go_sem,hsz]⟩ (by omega)
 have hk':((X.1.2.kind:Nat):Int)=1:=by omega
 have GX:=hTX.2 hk
 have GY:=hTY.2 (by rw [hXY];exact hk)
 rw [show Y.1.1=X.1.1 by rw [hXY]] at GY
 obtain ⟨m1,m2,m3,m4⟩:=val_small l X.1.1 hl
 simp +decide only [go_sem,WR,WS,hsz,e0,e1,e5,hil,c0,Int.toNat_natCast,List.append_eq,List.cons_append,List.nil_append,p3,p6,p7,p8,p9,r3,r6,r7,r8,r9,hk',i1,P4,P5,R4,R5]
 refine W_call Kok hxw.1 (gplain_run _ w (GX.ext hxw) m1 m2 m3 m4) fun r w2 x2 hr=> ?_
 obtain ⟨q,rfl,PQ⟩:=hr
 have r3':(w2.get b2).read= .cells cs2 8:=by rw [x2.2 _ r2];exact r3
 simp +decide only [go_sem,WR,WS,hsz,e0,e1,e5,hil,c0,Int.toNat_natCast,r3',R4,R5]
 refine W_call Kok (hxw.trans x2).1 (gsame_run _ w2 PQ (GY.ext (hxw.trans x2)) (by omega) m2 m3) fun r w3 x3 hr=> ?_
 subst hr
 simp +decide only [go_sem,WR,WS,hsz,e0,e1,e5,i1]
 exact next (i+1) _ _ ⟨by omega,by simp +decide only [go_sem,hsz],hxw.trans (x2.trans x3),by simp +decide only [go_sem,hsz,e0],by simp +decide only [go_sem,hsz,e1],by simp +decide only [go_sem,hsz]⟩ (by omega)
theorem lsame_nil (h:Heap):Runs K 11 #[.slice none 0 0,.slice none 0 0] h fun r w=>r= .bool true:=lsame_run [] [] [] h (Nat.zero_le _) (Sl.nil _ _) (Sl.nil _ _) (by simp) (by simp) rfl (by simp)
theorem cuts_run (l:List Int) (h:Heap) {a:Option Addr} {c:Nat} (sl:Sl h 1 a l.length c (rv l)) (hc:c=0∨c=big) :
  Runs K 3 #[.slice a l.length c] h fun r _=>r= .bool true:=by
 have t:=Tx.all sl hc
 refine Runs.of Kok (Does.intro rfl (by decide +kernel) Tryz.func3 rfl ?_)
 by_cases h3:(300:Int) < ((l.length:Nat):Int)
 case pos =>
  by_cases h5:((l.length:Nat):Int)≤512
  ·simp +decide only [go_sem,WR,WS,h3,h5]
   refine W_call Kok (Nat.le_refl _) (law22_awake_runs h) fun r w x hr=> ?_
   subst hr
   simp +decide only [go_sem,WR,WS]
  have hnone:lex l=none:=by
   unfold lex
   rw [if_pos (by omega)]
  simp +decide only [go_sem,WR,WS,h3,h5]
  refine W_call Kok (Nat.le_refl _) (lex_val h t) fun r w1 x1 hr=> ?_
  rcases hr with ⟨_,rfl⟩ | ⟨_,_,_,hlex,_⟩
  case inr=>rw [hnone] at hlex;cases hlex
  simp +decide only [go_sem,WR,WS]
  refine W_call Kok x1.1 (rlex_val w1 (t.ext x1)) fun r w2 x2 hr=> ?_
  rcases hr with ⟨_,rfl⟩ | ⟨_,_,_,hlex,_⟩
  case inr=>rw [hnone] at hlex;cases hlex
  simp +decide only [go_sem,WR,WS]
  refine W_call Kok (x1.trans x2).1 (lsame_nil w2) fun r w3 x3 hr=> ?_
  subst hr
  simp +decide only [go_sem,WR,WS]
  refine W_call Kok (x1.trans (x2.trans x3)).1 (law22_awake_runs w3) fun r w x hr=> ?_
  subst hr
  simp +decide only [go_sem,WR,WS]
 have hl:l.length≤1000:=by omega
 simp +decide only [go_sem,WR,WS,h3]
 refine W_call Kok (Nat.le_refl _) (lex_val h t) fun r w1 x1 hr=> ?_
 rcases hr with ⟨hlex,rfl⟩ | ⟨xs,a1,c1,hlex,hA,hxl,rfl,s1⟩
 ·simp +decide only [go_sem,WR,WS]
  refine W_call Kok x1.1 (rlex_val w1 (t.ext x1)) fun r w2 x2 hr=> ?_
  rcases hr with ⟨_,rfl⟩ | ⟨_,_,_,hlex2,_⟩
  case inr=>rw [hlex] at hlex2;cases hlex2
  simp +decide only [go_sem,WR,WS]
  refine W_call Kok (x1.trans x2).1 (lsame_nil w2) fun r w3 x3 hr=> ?_
  subst hr
  simp +decide only [go_sem,WR,WS]
  refine W_call Kok (x1.trans (x2.trans x3)).1 (law22_awake_runs w3) fun r w x hr=> ?_
  subst hr
  simp +decide only [go_sem,WR,WS]
 simp +decide only [go_sem,WR,WS]
 refine W_call Kok x1.1 (rlex_val w1 (t.ext x1)) fun r w2 x2 hr=> ?_
 rcases hr with ⟨hlex2,_⟩ | ⟨ys,a2,c2,hlex2,hB,hyl,rfl,s2⟩
 ·rw [hlex] at hlex2
  cases hlex2
 rw [hlex,Option.some.injEq] at hlex2
 have hxy:ys.length=xs.length:=by
  have:=congrArg List.length hlex2
  simpa using this.symm
 rw [hxy] at s2 ⊢
 simp +decide only [go_sem,WR,WS]
 refine W_call Kok (x1.trans x2).1 (lsame_run l xs ys w2 hl (s1.ext x2) s2 (fun x hx=>(hA x hx).ext x2) hB hlex2 (by omega)) fun r w3 x3 hr=> ?_
 subst hr
 simp +decide only [go_sem,WR,WS]
 refine W_call Kok (x1.trans (x2.trans x3)).1 (law22_awake_runs w3) fun r w x hr=> ?_
 subst hr
 simp +decide only [go_sem,WR,WS]
end Go.Proofs.YtjlaenglmdpboaaGreat.V12
