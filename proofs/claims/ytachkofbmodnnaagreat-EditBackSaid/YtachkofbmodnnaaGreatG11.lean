/- Proved here: parts of the way to BEditBack (BN11 BN12 BR0 BR1 BN13); no condition beyond those that each theorem names. -/
import Derived.Test.YtachkofbmodnnaaGreatG10
set_option linter.unusedSimpArgs false
set_option linter.unusedVariables false
namespace Go.Proofs.YtachkofbmodnnaaGreat.N11
open Go Go.Im Go.Im.Limbs Go.Proofs Go.RowKit Hd N1 N2 N10
set_option maxRecDepth 100000
theorem Zp9 (x n most:Nat) (h:Heap) {v:Value} (hv:NatV h v x) (hx0:x≠0) (hx1:x≠1) (hn:n≤1099511627776) (hm:∀ i,i≤n→(dig (x ^ i)).length≤most) (hmost:most≤549755813) :
  Runs K 164 #[v,.int .i64 (n:Int),.int .i64 (most:Int)] h fun r w=>∃ q,r= .tuple #[q,.bool true]∧NatV w q (x ^ n):=by
 obtain ⟨a,c,rfl,sa⟩:=hv.open
 refine Runs.of Kok (Does.intro rfl Ye Tryz.func164 rfl ?_)
 obtain ⟨w0,e0,x0,hs0,z0,z1⟩:=lay2 h (.cells [.slice a (dig x).length c] 1) (.cells [.slice none 0 0] 1)
 simp +decide only [go_sem,WR,WS,e0]
 refine Zaa Kok Ya (of_run 1 w0 Ya) fun r w1 x1 hr=> ?_
 obtain ⟨a1,c1,rfl,s1⟩:=hr.open
 obtain ⟨w2,e2,x2,hs2,g2⟩:=lay1 w1 (.cells [.slice none 0 0] 1)
 have hx2:=x0.trans (x1.trans x2)
 have hsz:h.size+2≤w1.size:=by have:=x1.1;omega
 have j1:h.size≤w1.size:=Ya
 have j2:h.size≤h.size+1:=Ya
 obtain ⟨w3,e3,x3,hs3,g3,k3⟩:=put1 hx2 j1 (.cells [.slice a1 (dig 1).length c1] 1)
 have y0:w3.get h.size= .cells [.slice a (dig x).length c] 1:=(k3 _ Ya).trans (((x1.trans x2).2 _ Ya).trans z0)
 have y1:w3.get (h.size+1)= .cells [.slice none 0 0] 1:=(k3 _ Ya).trans (((x1.trans x2).2 _ Ya).trans z1)
 have n3:NatV w3 (.agg #[.slice a1 (dig 1).length c1]) 1:=(hr.ext x2).over g2 Yn Yn hs3 g3 k3
 obtain ⟨ob,hob⟩:∃ ob,ob=w1.size:=⟨_,rfl⟩
 have fin:∀ (w:Heap) (p:Value) (X:Nat),Ext h w→w.get (h.size+1)= .cells [.slice none 0 0] 1→NatV w (.agg #[p]) X→∃ wd,w.set (h.size+1) (.cells [p] 1)=wd∧wd.get (h.size+1)= .cells [p] 1∧NatV wd (.agg #[p]) X:=by
  intro w p X hx g2 n1
  obtain ⟨wd,ed,xd,hsd,gd,kd⟩:=put1 hx j2 (.cells [p] 1)
  exact ⟨wd,ed,gd,n1.over g2 Yn Yn hsd gd kd⟩
 by_cases hn0:(n:Int)≤0
 ·have:n=0:=by omega
  subst this
  obtain ⟨wd,ed,gd,nd⟩:=fin w3 _ 1 x3 y1 n3
  simp +decide only [go_sem,WR,WS,e2,g2,j1,e3,g3,hn0,y1,j2,ed,gd]
  exact ⟨_,rfl,nd⟩
 simp +decide only [go_sem,WR,WS,e2,g2,j1,e3,hn0,y0]
 refine Zaa Kok Ya (Zqb x w3 (hv.ext x3)) fun r w4 x4 hr=> ?_
 subst hr
 have y0:w4.get h.size=_:=(x4.2 _ Ya).trans y0
 have y1:w4.get (h.size+1)=_:=(x4.2 _ Ya).trans y1
 have hs4:w3.size≤w4.size:=x4.1
 have hx4:=x3.trans x4
 simp +decide only [go_sem,WR,WS,hx1,y0]
 refine Zaa Kok Ya (Zbq x w4 (hv.ext hx4)) fun r w5 x5 hr=> ?_
 subst hr
 have y0:w5.get h.size=_:=(x5.2 _ Ya).trans y0
 have y1:w5.get (h.size+1)=_:=(x5.2 _ Ya).trans y1
 have g5:w5.get ob= .cells [.slice a1 (dig 1).length c1] 1:=by rw [hob];exact (x5.2 _ Ya).trans ((x4.2 _ Ya).trans g3)
 have hs5:w4.size≤w5.size:=x5.1
 have hx5:=hx4.trans x5
 simp +decide only [go_sem,WR,WS,hx0]
 refine Zah (α:=Nat × Option Addr × Nat) (fun k e w=>k.1≤n∧e.size=33∧Ext h w∧ob < w.size∧w.get h.size= .cells [.slice a (dig x).length c] 1∧w.get (h.size+1)= .cells [.slice none 0 0] 1∧w.get ob= .cells [.slice k.2.1 (dig (x ^ k.1)).length k.2.2] 1∧NatV w (.agg #[.slice k.2.1 (dig (x ^ k.1)).length k.2.2]) (x ^ k.1) ∧
  e.get 2= .int .i64 (most:Int)∧e.get 3= .pointer (some ⟨h.size,0,none⟩)∧e.get 6= .pointer (some ⟨h.size+1,0,none⟩)∧e.get 8= .pointer (some ⟨ob,0,none⟩)∧e.get 20= .int .i64 (n:Int)∧e.get 21= .int .i64 (k.1:Int)) (fun k=>n - k.1) (0,a1,c1) ?_ ?_
 ·refine ⟨Nat.zero_le _,Yc,hx5,by omega,y0,y1,?_,?_,Yc,Yc,Yc,by simp +decide only [go_sem,← hob],Yc,by simp +decide only [go_sem];rfl⟩
  ·simpa using g5
  ·have:=n3.ext (x4.trans x5)
   simpa using this
 ·rintro ⟨k,aO,cO⟩ e w ⟨hk,hsz',hxw,hobw,g0,g1,go,nO,e2',e3',e6,e8,e20,e21⟩ next
  simp only at hk go nO e21
  by_cases hkn:(k:Int) < (n:Int)
  case neg =>
   have hkk:k=n:=Ya
   subst hkk
   obtain ⟨wd,ed,gd,nd⟩:=fin w _ _ hxw g1 nO
   simp +decide only [go_sem,WR,WS,hsz',e2',e3',e6,e8,e20,e21,hkn,go,g1,j2,ed,gd]
   exact ⟨_,rfl,nd⟩
  have hlO:(dig (x ^ k)).length≤549755813887:=Nat.le_trans (hm k Ya) Ya
  have hlx:(dig x).length≤549755813887:=by
   have:=hm 1 Ya
   rw [Nat.pow_one] at this
   omega
  simp +decide only [go_sem,WR,WS,hsz',e2',e3',e6,e8,e20,e21,hkn,go,g0]
  refine Zaa Kok (by have:=hxw.1;omega) (ZfW (x ^ k) x w nO (hv.ext hxw) hlO hlx) fun r w6 x6 hr=> ?_
  rw [← Nat.pow_succ] at hr
  obtain ⟨a6,c6,rfl,s6⟩:=hr.open
  have g0:w6.get h.size=_:=(x6.2 _ Ya).trans g0
  have g1:w6.get (h.size+1)=_:=(x6.2 _ Ya).trans g1
  have go:w6.get ob=_:=(x6.2 _ Ya).trans go
  have hs6:=x6.1
  have jo:h.size≤ob:=Ya
  obtain ⟨w7,e7,x7,hs7,g7,k7⟩:=put1 (hxw.trans x6) jo (.cells [.slice a6 (dig (x ^ (k+1))).length c6] 1)
  have n7:NatV w7 (.agg #[.slice a6 (dig (x ^ (k+1))).length c6]) (x ^ (k+1)):=hr.over go Yn Yn hs7 g7 k7
  have g0:w7.get h.size=_:=(k7 _ Ya).trans g0
  have g1:w7.get (h.size+1)=_:=(k7 _ Ya).trans g1
  simp +decide only [go_sem,WR,WS,hsz',e2',e3',e6,e8,e20,e21,go,jo,e7,g7]
  refine Zaa Kok Ya (Zmz (x ^ (k+1)) w7 n7) fun r w8 x8 hr=> ?_
  subst hr
  have hlim:¬ (most:Int) < (((dig (x ^ (k+1))).length:Nat):Int):=by
   have:=hm (k+1) Ya
   omega
  have i5:IntKind.i64.wrap ((k:Int)+1)=((k+1:Nat):Int):=Yd
  simp +decide only [go_sem,WR,WS,hsz',e2',e3',e6,e8,e20,e21,hlim,i5]
  exact next (k+1,a6,c6) _ _ ⟨by simp only;omega,by simp +decide only [go_sem,hsz'],x7.trans x8,by have:=x8.1;omega,(x8.2 _ Ya).trans g0,(x8.2 _ Ya).trans g1,(x8.2 _ Ya).trans g7,n7.ext x8,by simp +decide only [go_sem,hsz',e2'],by simp +decide only [go_sem,hsz',e3'],by simp +decide only [go_sem,hsz',e6],by simp +decide only [go_sem,hsz',e8],by simp +decide only [go_sem,hsz',e20],by simp +decide only [go_sem,hsz']⟩ Yj
theorem ZpV (n:Nat) (h:Heap) (hn:n≤2000):Runs K 154 #[.int .i64 (n:Int)] h fun r w=>NatV w r (10 ^ n):=by
 refine Runs.of Kok (Does.intro rfl Ye Tryz.func154 rfl ?_)
 obtain ⟨w0,e0,x0,hs0,z0⟩:=lay1 h (.cells [.slice none 0 0] 1)
 simp +decide only [go_sem,WR,WS,e0]
 refine Zaa Kok Ya (of_run 10 w0 Ya) fun r w1 x1 hr=> ?_
 have hm:∀ i,i≤n→(dig (10 ^ i)).length≤1048576:=by
  intro i hi
  obtain ⟨N,hN⟩:∃ N,N=1048576:=⟨_,rfl⟩
  rw [Zaz,← hN]
  have h1:10 ^ i≤B ^ i:=Nat.pow_le_pow_left YL i
  have h2:B ^ i < B ^ N:=Nat.pow_lt_pow_right YL Ya
  omega
 simp +decide only [go_sem,WR,WS]
 refine Zaa Kok (by have:=x1.1;omega) (Zp9 10 n 1048576 w1 hr Ya Ya Ya hm Ya) fun r w2 x2 hr=> ?_
 obtain ⟨q,rfl,hq⟩:=hr
 obtain ⟨a2,c2,rfl,s2⟩:=hq.open
 obtain ⟨w3,e3,x3,hs3,g3⟩:=lay1 w2 (.cells [.slice none 0 0] 1)
 have hx2:=x0.trans (x1.trans x2)
 have j1:h.size≤w2.size:=hx2.1
 have s2':h.size+1≤w2.size:=by have:=x1.1;have:=x2.1;omega
 obtain ⟨w4,e4,x4,hs4,g4,k4⟩:=put1 (hx2.trans x3) j1 (.cells [.slice a2 (dig (10 ^ n)).length c2] 1)
 have z4:w4.get h.size= .cells [.slice none 0 0] 1:=(k4 _ Ya).trans (((x1.trans (x2.trans x3)).2 _ Ya).trans z0)
 obtain ⟨w5,e5,x5,hs5,g5,k5⟩:=put1 x4 (Nat.le_refl h.size) (.cells [.slice a2 (dig (10 ^ n)).length c2] 1)
 simp +decide only [go_sem,WR,WS,e3,g3,j1,e4,g4,z4,Nat.le_refl,e5,g5]
 exact ((hq.ext x3).over g3 Yn Yn hs4 g4 k4).over z4 Yn Yn hs5 g5 k5
end Go.Proofs.YtachkofbmodnnaaGreat.N11
namespace Go.Proofs.YtachkofbmodnnaaGreat.N12
open Go Go.Im Go.Im.Limbs Go.Proofs Go.RowKit Hd N1 N2 N10 N11
set_option maxRecDepth 100000
def dec (l:List UInt8):Nat:=l.foldl (fun a b=>a*10+(b.toNat - 48)) 0
theorem Zfu:∀ (l:List UInt8) (a:Nat),l.foldl (fun a b=>a*10+(b.toNat - 48)) a=a*10 ^ l.length+dec l
 | [],a=>by simp [dec]
 | b::l,a=>by
   unfold dec
   rw [List.foldl_cons,List.foldl_cons,Zfu l,Zfu l (0*10+(b.toNat - 48)),List.length_cons,Nat.pow_succ]
   grind
theorem ZgY (l m:List UInt8):dec (l++m)=dec l*10 ^ m.length+dec m:=by
 unfold dec
 rw [List.foldl_append,Zfu m]
 rfl
theorem ZdM:dec []=0:=rfl
theorem Zbx (l:List UInt8) (b:UInt8):dec (l++[b])=dec l*10+(b.toNat - 48):=by
 rw [ZgY]
 simp [dec]
def Digs (l:List UInt8):Prop:=∀ b ∈ l,48≤b.toNat∧b.toNat≤57
theorem Zep (b:UInt8) (l:List UInt8):dec (b::l)=(b.toNat - 48)*10 ^ l.length+dec l:=by
 have:=Zfu l (0*10+(b.toNat - 48))
 unfold dec at *
 rw [List.foldl_cons,this]
 simp
theorem dec_lt:∀ {l:List UInt8},Digs l→dec l < 10 ^ l.length
 | [],_=>by simp [dec]
 | b::l,h=>by
   have h1:=dec_lt (l:=l) fun c hc=>h c (by simp [hc])
   have h2:=h b Yp
   rw [Zep,List.length_cons,Nat.pow_succ]
   have h3:(b.toNat - 48)*10 ^ l.length≤9*10 ^ l.length:=Nat.mul_le_mul_right _ Ya
   omega
theorem ZpU {l m:List UInt8}:(text l=text m)=(l=m):=by
 apply propext
 exact ⟨fun h=>by have:=congrArg (fun b:ByteArray=>b.data.toList) h;simpa [ZfG] using this,fun h=>by rw [h]⟩
theorem ZhD {m k:Nat} (h:m < 10 ^ k):(dig m).length≤k:=by
 rw [Zaz]
 exact Nat.lt_of_lt_of_le h (Nat.pow_le_pow_left YL k)
set_option maxHeartbeats 4000000 in
theorem Zd0 (t:List UInt8) (h:Heap) (ht:Digs t) (h0:t≠[]) (hl:t.length≤2000):Runs K 137 #[.string (text t)] h fun r w=>∃ q,r= .tuple #[q,.bool true]∧NatV w q (dec t):=by
 obtain ⟨N,hN⟩:∃ N,N=2000:=⟨_,rfl⟩
 have hl:t.length≤N:=Ya
 refine Runs.of Kok (Does.intro rfl Ye Tryz.func137 rfl ?_)
 obtain ⟨w0,e0,x0,hs0,z0⟩:=lay1 h (.cells [.slice none 0 0] 1)
 have c1:¬ (2000:Int) < ((t.length:Nat):Int):=Ya
 have c0:¬ text t=text []:=by rw [ZpU];exact h0
 have c0':¬ text t=⟨#[]⟩:=c0
 obtain ⟨w1,e1,x1,hs1,z1⟩:=lay1 w0 (.cells [.slice none 0 0] 1)
 have hx1:=x0.trans x1
 have y0:w1.get h.size= .cells [.slice none 0 0] 1:=(x1.2 _ Ya).trans z0
 have y1:w1.get (h.size+1)= .cells [.slice none 0 0] 1:=by rw [← hs0];exact z1
 simp +decide only [go_sem,WR,WS,e0,c0',c1,e1]
 clear e0 e1 z1
 have j1:h.size≤h.size+1:=Ya
 refine Zah (α:=List UInt8 × Nat × Option Addr × Nat) (fun k e w=>e.size=60∧Ext h w∧h.size+2≤w.size∧w.get h.size= .cells [.slice none 0 0] 1∧w.get (h.size+1)= .cells [.slice k.2.2.1 (dig k.2.1).length k.2.2.2] 1∧NatV w (.agg #[.slice k.2.2.1 (dig k.2.1).length k.2.2.2]) k.2.1 ∧
  e.get 0= .string (text k.1)∧e.get 2= .pointer (some ⟨h.size,0,none⟩)∧e.get 4= .pointer (some ⟨h.size+1,0,none⟩)∧Digs k.1∧k.1.length≤t.length∧dec t=k.2.1*10 ^ k.1.length+dec k.1) (fun k=>k.1.length) (t,0,none,0) ?_ ?_
 ·refine ⟨Yc,hx1,by omega,y0,?_,?_,Yc,Yc,YW,ht,Nat.le_refl _,by simp⟩
  ·simpa [ZaU] using y1
  ·have:=NatV.zero w1
   simpa [ZaU] using this
 ·rintro ⟨t',V,aO,cO⟩ e w ⟨hsz,hxw,hws,g0,g1,nV,e0,e2,e4,hd',hl',hval⟩ next
  simp only at g1 nV e0 hd' hl' hval
  have hV:V < 10 ^ N:=by
   have h1:=dec_lt ht
   have h2:10 ^ t.length≤10 ^ N:=Nat.pow_le_pow_right Ya hl
   have h3:V*1≤V*10 ^ t'.length:=Nat.mul_le_mul_left _ (Nat.pow_pos Ya)
   omega
  by_cases hpos:(0:Int) < ((t'.length:Nat):Int)
  case neg =>
   have ht':t'=[]:=List.eq_nil_of_length_eq_zero Ya
   subst ht'
   obtain ⟨wd,ed,xd,hsd,gd,kd⟩:=put1 hxw (Nat.le_refl h.size) (.cells [.slice aO (dig V).length cO] 1)
   simp +decide only [go_sem,WR,WS,hsz,e0,e2,e4,List.length_nil,g1,g0,Nat.le_refl,ed,gd]
   refine ⟨_,rfl,?_⟩
   rw [hval]
   simp only [List.length_nil,Nat.pow_zero,Nat.mul_one,ZdM,Nat.add_zero]
   exact nV.over g0 Yn Yn hsd gd kd
  obtain ⟨n,hn⟩:∃ n,n=min 9 t'.length:=⟨_,rfl⟩
  have q1:min (9:Int) ((t'.length:Nat):Int)=(n:Int):=Ya
  have q2:(0:Int)≤(n:Int):=Ya
  have q3:n≤t'.length:=Ya
  have q4:n≤9:=Ya
  obtain ⟨ch,hch⟩:∃ ch,ch=t'.take n:=⟨_,rfl⟩
  have hchl:ch.length=n:=by rw [hch,List.length_take];omega
  have hchd:Digs ch:=fun b hb=>hd' b (by rw [hch] at hb;exact List.mem_of_mem_take hb)
  obtain ⟨w2,e2',x2,hs2,z2⟩:=lay1 w (.cells (byteCells ch) 1)
  have hx2:=hxw.trans x2
  have g0:w2.get h.size=_:=(x2.2 _ Ya).trans g0
  have g1:w2.get (h.size+1)=_:=(x2.2 _ Ya).trans g1
  simp +decide only [go_sem,WR,WS,hsz,e0,e2,e4,hpos,q1,q2,Int.toNat_natCast,Nat.zero_le,q3,Nat.sub_zero,List.drop_zero,← hch,e2',hchl]
  refine Zah (α:=Nat) (fun k e w'=>k≤n∧e.size=60∧w'=w2∧e.get 0= .string (text t')∧e.get 2= .pointer (some ⟨h.size,0,none⟩)∧e.get 4= .pointer (some ⟨h.size+1,0,none⟩)∧e.get 5= .int .i64 (n:Int)∧e.get 6= .int .u64 ((dec (ch.take k):Nat):Int)∧e.get 7= .int .u64 ((10 ^ k:Nat):Int) ∧
   e.get 27= .slice (some ⟨w.size,0,none⟩) n big∧e.get 28= .int .i64 (n:Int)∧e.get 29= .int .i64 (k:Int)) (fun k=>n - k) 0 ?_ ?_
  ·exact ⟨Nat.zero_le _,Yb,rfl,Yf,Ys,Yg,Yb,by simp +decide only [go_sem,hsz];rfl,by simp +decide only [go_sem,hsz];rfl,Yb,Yb,by simp +decide only [go_sem,hsz];rfl⟩
  ·rintro k e w' ⟨hk,hsz,rfl,e0,e2,e4,e5,e6,e7,e27,e28,e29⟩ next2
   by_cases hkn:(k:Int) < (n:Int)
   case neg =>
    have hkk:k=n:=Ya
    subst hkk
    have hx:dec ch < 18446744073709551616:=by
     have h1:=dec_lt hchd
     have h2:10 ^ ch.length≤10 ^ 9:=Nat.pow_le_pow_right Ya Ya
     omega
    have hp:10 ^ k < 18446744073709551616:=by
     have h2:10 ^ k≤10 ^ 9:=Nat.pow_le_pow_right Ya Ya
     omega
    rw [List.take_of_length_le Ya] at e6
    simp +decide only [go_sem,WR,WS,hsz,e0,e2,e4,e5,e6,e7,e27,e28,e29,hkn,g1]
    refine Zaa Kok Ya (of_run (10 ^ k) w' hp) fun r w3 x3 hr=> ?_
    simp +decide only [go_sem,WR,WS,hsz,e0,e2,e4,e5,e6,e7]
    have hl10:(dig (10 ^ k)).length≤549755813887:=by
     have:=Zaz.2 (show 10 ^ k < B ^ 2 by rw [B_eq];omega)
     omega
    have hlV:(dig V).length≤2000:=by have:=ZhD hV;omega
    refine Zaa Kok (by have:=x3.1;omega) (ZfW V (10 ^ k) w3 (nV.ext (x2.trans x3)) hr Ya hl10) fun r w4 x4 hr4=> ?_
    simp +decide only [go_sem,WR,WS,hsz,e0,e2,e4,e5,e6,e7]
    refine Zaa Kok (by have:=x3.1;have:=x4.1;omega) (of_run (dec ch) w4 hx) fun r w5 x5 hr5=> ?_
    simp +decide only [go_sem,WR,WS,hsz,e0,e2,e4,e5,e6,e7]
    have hlx:(dig (dec ch)).length≤549755813887:=by
     have:=Zaz.2 (show dec ch < B ^ 2 by rw [B_eq];omega)
     omega
    have hlm:(dig (V*10 ^ k)).length≤549755813887:=by
     have h1:V*10 ^ k < 10 ^ (N+9):=by
      rw [Nat.pow_add]
      have h2:10 ^ k≤10 ^ 9:=Nat.pow_le_pow_right Ya Ya
      have h3:V*10 ^ k≤V*10 ^ 9:=Nat.mul_le_mul_left _ h2
      have h4:V*10 ^ 9 < 10 ^ N*10 ^ 9:=Nat.mul_lt_mul_of_pos_right hV Ya
      omega
     have:=ZhD h1
     omega
    refine Zaa Kok (by have:=x3.1;have:=x4.1;have:=x5.1;omega) (Zrg (V*10 ^ k) (dec ch) w5 (hr4.ext x5) hr5 hlm hlx) fun r w6 x6 hr6=> ?_
    obtain ⟨a6,c6,rfl,s6⟩:=hr6.open
    have x26:=x3.trans (x4.trans (x5.trans x6))
    have g0:w6.get h.size=_:=(x26.2 _ Ya).trans g0
    have g1:w6.get (h.size+1)=_:=(x26.2 _ Ya).trans g1
    obtain ⟨w7,e7',x7,hs7,g7,k7⟩:=put1 (hx2.trans x26) j1 (.cells [.slice a6 (dig (V*10 ^ k+dec ch)).length c6] 1)
    have hd:(t'.drop k).take (t'.length - k)=t'.drop k:=List.take_of_length_le Yp
    simp +decide only [go_sem,WR,WS,hsz,e0,e2,e4,e5,e6,e7,g1,j1,e7',q2,Int.toNat_natCast,q3,Nat.le_refl,hd]
    refine next (t'.drop k,V*10 ^ k+dec ch,a6,c6) _ _ ⟨Yb,x7,by have:=x26.1;omega,(k7 _ Ya).trans g0,g7,hr6.over g1 Yn Yn hs7 g7 k7,Yb,Ys,Yg,fun b hb=>hd' b (List.mem_of_mem_drop hb),by simp only [List.length_drop];omega,?_⟩ (by simp only [List.length_drop];omega)
    simp only
    rw [hval]
    have h1:=ZgY ch (t'.drop k)
    rw [hch,List.take_append_drop,← hch] at h1
    rw [h1]
    have h2:10 ^ t'.length=10 ^ k*10 ^ (t'.drop k).length:=by
     rw [← Nat.pow_add]
     congr 1
     simp
     omega
    rw [h2]
    generalize 10 ^ (t'.drop k).length=g at *
    generalize 10 ^ k=f at *
    grind
   have hkn':k < n:=Ya
   obtain ⟨b,hb⟩:∃ b,ch[k]? =some b:=⟨_,List.getElem?_eq_getElem Ya⟩
   have hbd:=hchd b (List.mem_of_getElem? hb)
   have hbc:(byteCells ch)[k]? =some (.int .u8 b.toNat):=by simp [byteCells,hb]
   have l1:¬ ((b.toNat:Nat):Int) < 48:=Ya
   have l2:¬ (57:Int) < ((b.toNat:Nat):Int):=Ya
   have l3:(0:Int)≤(k:Int):=Ya
   have hdk:dec (ch.take k) < 10 ^ 9:=by
    have h1:=dec_lt (l:=ch.take k) fun b hb=>hchd b (List.mem_of_mem_take hb)
    have h2:10 ^ (ch.take k).length≤10 ^ 9:=Nat.pow_le_pow_right Ya Yl
    omega
   have hpk:10 ^ k≤10 ^ 9:=Nat.pow_le_pow_right Ya Ya
   have m1:IntKind.u64.wrap (10*((dec (ch.take k):Nat):Int))=((10*dec (ch.take k):Nat):Int):=wmul (x:=10) Ya
   have m2:IntKind.u64.wrap (10*((10 ^ k:Nat):Int))=((10 ^ (k+1):Nat):Int):=by
    rw [Nat.pow_succ,Nat.mul_comm]
    exact wmul (x:=10) Ya
   have m3:IntKind.u8.wrap (((b.toNat:Nat):Int) - 48)=((b.toNat - 48:Nat):Int):=Yaa
   have m4:IntKind.u64.wrap (((10*dec (ch.take k):Nat):Int)+((b.toNat - 48:Nat):Int))=((dec (ch.take (k+1)):Nat):Int):=by
    rw [wadd Ya,List.take_add_one,hb]
    simp only [Option.toList_some]
    rw [Zbx,Nat.mul_comm]
   have i5:IntKind.i64.wrap ((k:Int)+1)=((k+1:Nat):Int):=Yd
   simp +decide only [go_sem,WR,WS,hsz,e0,e2,e4,e5,e6,e7,e27,e28,e29,hkn,l3,Nat.mul_one,Nat.zero_add,Int.toNat_natCast,z2,hbc,l1,l2,m1,m2,m3,w64 (show b.toNat - 48 < 18446744073709551616 by omega),m4,i5]
   exact next2 (k+1) _ _ ⟨by omega,Yb,rfl,Yf,Ys,Yg,Yo,Yb,Yb,YG,by simp +decide only [go_sem,hsz,e28],Yb⟩ Ya
theorem ZkP (h:Heap):Runs K 137 #[.string (text [])] h fun r w=>∃ q,r= .tuple #[q,.bool false]∧NatV w q 0:=by
 refine Runs.of Kok (Does.intro rfl Ye Tryz.func137 rfl ?_)
 have c0':text []=⟨#[]⟩:=rfl
 simp +decide only [go_sem,WR,WS,c0',Nat.le_refl]
 exact ⟨_,rfl,NatV.zero _⟩
end Go.Proofs.YtachkofbmodnnaaGreat.N12
namespace Go.Im.Dec
open Go Go.Im Go.Im.Limbs Go.Proofs.YtachkofbmodnnaaGreat.N12
def ds (n:Nat):List UInt8:=if h:n < 10 then [UInt8.ofNat (48+n)] else ds (n / 10)++[UInt8.ofNat (48+n%10)]
termination_by n
decreasing_by omega
theorem ZiL {n:Nat} (h:n < 10):ds n=[UInt8.ofNat (48+n)]:=by rw [ds,dif_pos h]
theorem Zli {n:Nat} (h:10≤n):ds n=ds (n / 10)++[UInt8.ofNat (48+n%10)]:=by rw [ds,dif_neg Ya]
theorem of48 {d:Nat} (h:d≤9):(UInt8.ofNat (48+d)).toNat=48+d:=by
 have e:48+d < 256:=Ya
 rw [UInt8.toNat_ofNat_of_lt' Yaf]
theorem Zoe {b:UInt8} (h:48≤b.toNat):UInt8.ofNat (48+(b.toNat - 48))=b:=by
 apply UInt8.toNat_inj.1
 have:=b.toNat_lt
 have e:48+(b.toNat - 48) < 256:=Ya
 rw [UInt8.toNat_ofNat_of_lt' Yaf]
 omega
theorem Zs6 (n:Nat):ds n≠[]:=by
 by_cases h:n < 10
 ·rw [ZiL h];simp
 ·rw [Zli Ya];simp
theorem Zkq (n:Nat):1≤(ds n).length:=by
 have:=List.length_pos_iff.2 (Zs6 n)
 omega
theorem ZbE (n:Nat):Digs (ds n):=by
 induction n using Nat.strongRecOn with
 | ind n ih =>
   by_cases h:n < 10
   ·rw [ZiL h]
    intro b hb
    rw [List.mem_singleton] at hb
    subst hb
    rw [of48 Ya]
    omega
   ·rw [Zli Ya]
    intro b hb
    rcases List.mem_append.1 hb with hb | hb
    ·exact ih _ Ya b hb
    ·rw [List.mem_singleton] at hb
     subst hb
     rw [of48 Ya]
     omega
theorem Zeo (n:Nat):dec (ds n)=n:=by
 induction n using Nat.strongRecOn with
 | ind n ih =>
   by_cases h:n < 10
   ·rw [ZiL h,show [UInt8.ofNat (48+n)]=[]++[UInt8.ofNat (48+n)] from rfl,Zbx,of48 Ya,ZdM]
    omega
   ·rw [Zli Ya,Zbx,ih _ Ya,of48 Ya]
    omega
theorem Znc {m n:Nat}:ds m=ds n↔m=n:=⟨fun h=>by rw [← Zeo m,← Zeo n,h],fun h=>by rw [h]⟩
theorem ZdJ:ds 0=[48]:=ZiL Ya
theorem Zfa:ds 1=[49]:=ZiL Ya
theorem ZbJ (n:Nat):n < 10 ^ (ds n).length:=by
 have:=dec_lt (ZbE n)
 rwa [Zeo] at this
theorem Zkr {n:Nat}:∀ {k:Nat},n < 10 ^ k→1≤k→(ds n).length≤k:=by
 induction n using Nat.strongRecOn with
 | ind n ih =>
   intro k h hk
   by_cases hn:n < 10
   ·rw [ZiL hn];simpa using hk
   ·rw [Zli Ya]
    obtain ⟨j,rfl⟩:∃ j,k=j+1:=⟨k - 1,by omega⟩
    have h1:n / 10 < 10 ^ j:=by rw [Nat.pow_succ] at h;omega
    have h2:1≤j:=by
     rcases Nat.eq_zero_or_pos j with h0 | h0
     ·subst h0
      simp at h
      omega
     ·exact h0
    have:=ih (n / 10) Ya h1 h2
    simp
    omega
theorem ZeS {m n:Nat} (h:m≤n):(ds m).length≤(ds n).length:=Zkr (Nat.lt_of_le_of_lt h (ZbJ n)) (Zkq n)
theorem Zkb {m n:Nat} (h:(ds m).length < (ds n).length):m < n:=by
 refine Nat.lt_of_not_le fun hh=> ?_
 have:=ZeS hh
 omega
def trimF:List UInt8→List UInt8
 | b::c::t=>if b.toNat=48 then trimF (c::t) else b::c::t
 | t=>t
theorem Zgu:∀ {s:List UInt8} (b:UInt8),Digs s→s≠[]→trimF (s++[b])=if dec s=0 then [b] else trimF s++[b]
 | [],b,_,h=>absurd rfl h
 | [c],b,hd,_=>by
   have h1:=hd c Yp
   have e:dec [c]=c.toNat - 48:=by rw [show [c]=[]++[c] from rfl,Zbx,ZdM];omega
   rw [e]
   by_cases hc:c.toNat=48
   ·rw [if_pos Ya]
    simp [trimF,hc]
   ·rw [if_neg Ya]
    simp [trimF,hc]
 | c::d::s,b,hd,_=>by
   have h1:=hd c Yp
   have hs:Digs (d::s):=fun x hx=>hd x (by simp at hx ⊢;exact .inr hx)
   by_cases hc:c.toNat=48
   ·have e:dec (c::d::s)=dec (d::s):=by rw [Zep,hc];simp
    have t1:trimF (c::d::s++[b])=trimF (d::s++[b]):=by
     show trimF (c::d::(s++[b]))=_
     rw [trimF,if_pos hc]
     rfl
    have t2:trimF (c::d::s)=trimF (d::s):=by rw [trimF,if_pos hc]
    rw [t1,t2,e]
    exact Zgu b hs Yp
   ·have e:dec (c::d::s)≠0:=by
     rw [Zep]
     have:0 < (c.toNat - 48)*10 ^ (d::s).length:=Nat.mul_pos Ya (Nat.pow_pos Ya)
     omega
    have t1:trimF (c::d::s++[b])=c::d::s++[b]:=by
     show trimF (c::d::(s++[b]))=_
     rw [trimF,if_neg hc]
     rfl
    have t2:trimF (c::d::s)=c::d::s:=by rw [trimF,if_neg hc]
    rw [t1,t2,if_neg e]
theorem ZlJ {α:Type} {l:List α} (h:l≠[]):∃ s b,l=s++[b]:=⟨l.dropLast,l.getLast h,(List.dropLast_concat_getLast h).symm⟩
theorem ZjN:∀ (k:Nat) {t:List UInt8},t.length=k→Digs t→t≠[]→trimF t=ds (dec t)
 | 0,t,hk,_,h=>absurd (List.eq_nil_of_length_eq_zero hk) h
 | k+1,t,hk,hd,h=>by
   obtain ⟨s,b,rfl⟩:=ZlJ h
   have hb:=hd b Yp
   have hs:Digs s:=fun x hx=>hd x Y6
   have he:UInt8.ofNat (48+(b.toNat - 48))=b:=Zoe hb.1
   rw [Zbx]
   by_cases h0:s=[]
   ·subst h0
    rw [ZdM,ZiL Ya]
    simp only [Nat.zero_mul,Nat.zero_add,List.nil_append,he]
    rfl
   ·rw [Zgu b hs h0]
    have hk':s.length=k:=by simp at hk;omega
    by_cases hz:dec s=0
    ·rw [if_pos hz,hz,ZiL Ya]
     simp only [Nat.zero_mul,Nat.zero_add,he]
    ·rw [if_neg hz,ZjN k hk' hs h0,Zli (n:=dec s*10+(b.toNat - 48)) Ya]
     have e1:(dec s*10+(b.toNat - 48)) / 10=dec s:=Ya
     have e2:(dec s*10+(b.toNat - 48))%10=b.toNat - 48:=Ya
     rw [e1,e2,he]
theorem Zlv {t:List UInt8} (hd:Digs t) (h:t≠[]):trimF t=ds (dec t):=ZjN _ rfl hd h
def dgt (t:List UInt8) (i:Nat):Nat:=if t.length≤i then 0 else (t.getD (t.length - 1 - i) 48).toNat - 48
theorem Znf:∀ (i:Nat) {t:List UInt8},Digs t→dgt t i=dec t / 10 ^ i%10
 | i,t,hd=>by
   by_cases h:t=[]
   ·subst h
    simp [dgt,ZdM]
   obtain ⟨s,b,rfl⟩:=ZlJ h
   have hb:=hd b Yp
   have hs:Digs s:=fun x hx=>hd x Y6
   rw [Zbx]
   cases i with
   | zero =>
     have e:dgt (s++[b]) 0=b.toNat - 48:=by
      unfold dgt
      rw [if_neg Yp]
      simp [List.getD]
     rw [e]
     simp
     omega
   | succ i =>
     have e:dgt (s++[b]) (i+1)=dgt s i:=by
      unfold dgt
      by_cases hl:s.length≤i
      ·rw [if_pos hl,if_pos Yl]
      ·rw [if_neg hl,if_neg Yl]
       have:(s++[b]).length - 1 - (i+1)=s.length - 1 - i:=by simp;omega
       rw [this,List.getD,List.getD,List.getElem?_append_left Ya]
     rw [e,Znf i hs,Nat.pow_succ,Nat.mul_comm (10 ^ i) 10,← Nat.div_div_eq_div_mul]
     congr 2
     omega
theorem ZgX (n i:Nat):dgt (ds n) i=n / 10 ^ i%10:=by rw [Znf i (ZbE n),Zeo]
theorem Zkg:∀ {s t:List UInt8},s.length=t.length→Digs s→Digs t→(Op.bytesLess s t=true↔dec s < dec t)
 | [],[],_,_,_=>by simp [Op.bytesLess]
 | [],_::_,h,_,_=>by simp at h
 | _::_,[],h,_,_=>by simp at h
 | a::s,b::t,h,hs,ht=>by
   have ha:=hs a Yp
   have hb:=ht b Yp
   have hs':Digs s:=fun x hx=>hs x Y6
   have ht':Digs t:=fun x hx=>ht x Y6
   have hl:s.length=t.length:=YO
   have ih:=Zkg hl hs' ht'
   rw [Zep,Zep,← hl]
   have l1:=dec_lt hs'
   have l2:=dec_lt ht'
   rw [← hl] at l2
   generalize 10 ^ s.length=P at *
   have key:∀ {x y p q:Nat},p < P→q < P→x < y→x*P+p < y*P+q:=by
    intro x y p q hp hq hxy
    have:(x+1)*P≤y*P:=Nat.mul_le_mul_right _ hxy
    rw [Nat.add_mul] at this
    omega
   simp only [Op.bytesLess]
   by_cases h1:a < b
   ·have h1':=UInt8.lt_iff_toNat_lt.1 h1
    have:=key (x:=a.toNat - 48) (y:=b.toNat - 48) l1 l2 Ya
    simp [h1,this]
   ·by_cases h2:b < a
    ·have h2':=UInt8.lt_iff_toNat_lt.1 h2
     have:=key (x:=b.toNat - 48) (y:=a.toNat - 48) l2 l1 Ya
     have h3:¬ a=b:=fun hh=>by subst hh;exact h1 h2
     have h4:¬ ((a.toNat - 48)*P+dec s < (b.toNat - 48)*P+dec t):=Ya
     simp [h1,h3,h4]
    ·have he:a=b:=by
      apply UInt8.toNat_inj.1
      have h1':¬ a.toNat < b.toNat:=fun hh=>h1 (UInt8.lt_iff_toNat_lt.2 hh)
      have h2':¬ b.toNat < a.toNat:=fun hh=>h2 (UInt8.lt_iff_toNat_lt.2 hh)
      omega
     subst he
     simp [h1,ih]
def v10:List Nat→Nat
 | []=>0
 | d::l=>d+10*v10 l
theorem Zgt:∀ (l m:List Nat),v10 (l++m)=v10 l+10 ^ l.length*v10 m
 | [],m=>by simp [v10]
 | d::l,m=>by
   simp only [List.cons_append,v10,Zgt l m,List.length_cons,Nat.pow_succ,Nat.mul_add]
   rw [Nat.mul_comm (10 ^ l.length) 10,Nat.mul_assoc]
   omega
theorem ZjK (l:List Nat) (d:Nat):v10 (l++[d])=v10 l+d*10 ^ l.length:=by
 rw [Zgt]
 simp [v10,Nat.mul_comm]
theorem Zlt:∀ {l:List Nat} {i o:Nat} (d:Nat),l[i]? =some o→v10 (l.set i d)+o*10 ^ i=v10 l+d*10 ^ i
 | [],i,o,d,h=>by simp at h
 | x::l,0,o,d,h=>by
   simp at h
   subst h
   simp [v10]
   omega
 | x::l,i+1,o,d,h=>by
   have:=Zlt (l:=l) (i:=i) d YO
   simp only [List.set_cons_succ,v10,Nat.pow_succ]
   generalize 10 ^ i=P at *
   have e1:o*(P*10)=10*(o*P):=by rw [← Nat.mul_assoc,Nat.mul_comm]
   have e2:d*(P*10)=10*(d*P):=by rw [← Nat.mul_assoc,Nat.mul_comm]
   rw [e1,e2]
   omega
theorem ZjJ:∀ (k:Nat),v10 (List.replicate k 0)=0
 | 0=>rfl
 | k+1=>by simp [List.replicate_succ,v10,ZjJ k]
def wr (l:List Nat):List UInt8:=if l=[] then [48] else trimF (l.reverse.map fun d=>UInt8.ofNat (48+d))
theorem Zn4 {l:List Nat} (h:∀ d ∈ l,d≤9):Digs (l.reverse.map fun d=>UInt8.ofNat (48+d)):=by
 intro b hb
 simp only [List.mem_map,List.mem_reverse] at hb
 obtain ⟨d,hd,rfl⟩:=hb
 have:=h d hd
 rw [of48 this]
 omega
theorem Zng:∀ {l:List Nat},(∀ d ∈ l,d≤9)→dec (l.reverse.map fun d=>UInt8.ofNat (48+d))=v10 l
 | [],_=>rfl
 | d::l,h=>by
   simp only [List.reverse_cons,List.map_append,List.map_cons,List.map_nil]
   rw [Zbx,Zng (fun x hx=>h x Y6),of48 (h d Yp),v10]
   omega
theorem Zuz {l:List Nat} (h:∀ d ∈ l,d≤9):wr l=ds (v10 l):=by
 unfold wr
 split
 ·rename_i h0
  subst h0
  rw [v10,ZdJ]
 ·rename_i h0
  rw [Zlv (Zn4 h) (by simpa using h0),Zng h]
theorem Zo3:∀ {l:List Nat},(∀ d ∈ l,d≤9)→v10 l < 10 ^ l.length
 | [],_=>by simp [v10]
 | d::l,h=>by
   have h1:=Zo3 (l:=l) fun x hx=>h x Y6
   have h2:=h d Yp
   simp only [v10,List.length_cons,Nat.pow_succ]
   omega
theorem Zd6 (n i:Nat):n%10 ^ (i+1)=n%10 ^ i+n / 10 ^ i%10*10 ^ i:=by
 rw [Nat.pow_succ,Nat.mod_mul,Nat.mul_comm (10 ^ i)]
theorem Zd7 {n i:Nat} (h:(ds n).length≤i):n%10 ^ i=n:=Nat.mod_eq_of_lt (Nat.lt_of_lt_of_le (ZbJ n) (Nat.pow_le_pow_right Ya h))
end Go.Im.Dec
namespace Go.Proofs.YtachkofbmodnnaaGreat.R1
open Go Go.Im Go.Im.Limbs Go.Im.Dec Go.Proofs Go.RowKit Hd N12
set_option maxRecDepth 100000
theorem Zga {P:Program} {t:TypeId} {s u:ByteArray}:Zaj P .lss t (.string s) (.string u)=some (.bool (Op.bytesLess s.toList u.toList)):=by simp [Zaj,ibin]
theorem ZaI (t:List UInt8) (h:Heap) (hl:t.length≤1099511627776):Runs K 161 #[.string (text t)] h fun r _=>r= .string (text (trimF t)):=by
 refine Runs.of Kok (Does.intro rfl Ye Tryz.func161 rfl ?_)
 simp +decide only [go_sem,WR,WS]
 refine Zah (α:=List UInt8) (fun k e w=>e.size=14∧Ext h w∧e.get 0= .string (text k)∧k.length≤1099511627776∧trimF k=trimF t) (fun k=>k.length) t ?_ ?_
 ·exact ⟨Yc,Ext.refl h,Yc,hl,rfl⟩
 ·rintro k e w ⟨hsz,hxw,e0,hk,hkt⟩ next
  match k,hk with
  | [],hk =>
    rw [← hkt]
    simp +decide only [go_sem,WR,WS,hsz,e0,List.length_nil]
    rfl
  | [b],hk =>
    rw [← hkt]
    simp +decide only [go_sem,WR,WS,hsz,e0,List.length_cons,List.length_nil]
    rfl
  | b::c::k,hk =>
    have q1:(1:Int) < (((b::c::k).length:Nat):Int):=YN
    by_cases hb:((b.toNat:Nat):Int)=48
    ·have q2:1≤(b::c::k).length:=by simp
     have q3:((b::c::k).drop 1).take ((b::c::k).length - 1)=c::k:=Yp
     have q4:Zgk (text (b::c::k)) 0=some (.int .u8 b.toNat):=rfl
     generalize hL:b::c::k=L at *
     simp +decide only [go_sem,WR,WS,hsz,e0,q1,q4,hb,q2,Nat.le_refl,q3]
     refine next (c::k) _ _ ⟨Yb,hxw,Yb,by rw [← hL] at hk;simp at hk ⊢;omega,?_⟩ (by rw [← hL];simp)
     rw [← hkt,← hL,trimF,if_pos Ya]
    ·have q4:Zgk (text (b::c::k)) 0=some (.int .u8 b.toNat):=rfl
     have q5:trimF (b::c::k)=b::c::k:=by rw [trimF,if_neg Ya]
     rw [← hkt,q5]
     generalize hL:b::c::k=L at *
     simp +decide only [go_sem,WR,WS,hsz,e0,q1,q4,hb]
theorem Zdu {t:List UInt8} (hd:Digs t) (hne:t≠[]) (h:Heap) (hl:t.length≤1099511627776):Runs K 161 #[.string (text t)] h fun r _=>r= .string (text (ds (dec t))):=by
 have:=ZaI t h hl
 rwa [Zlv hd hne] at this
theorem Za3 (t:List UInt8) (i:Nat) (h:Heap) (ht:Digs t) (hl:t.length≤1099511627776):Runs K 188 #[.string (text t),.int .i64 (i:Int)] h fun r _=>r= .int .i64 ((dgt t i:Nat):Int):=by
 refine Runs.of Kok (Does.intro rfl Ye Tryz.func188 rfl ?_)
 by_cases hi:((t.length:Nat):Int)≤(i:Int)
 ·have:dgt t i=0:=by unfold dgt;rw [if_pos Ya]
  simp +decide only [go_sem,WR,WS,hi,this]
  rfl
 ·have q1:IntKind.i64.wrap (((t.length:Nat):Int) - 1)=((t.length - 1:Nat):Int):=by rw [wrap_i64 Ya Ya];omega
  have q2:IntKind.i64.wrap (((t.length - 1:Nat):Int) - (i:Int))=((t.length - 1 - i:Nat):Int):=Yd
  obtain ⟨b,hb⟩:∃ b,t[t.length - 1 - i]? =some b:=⟨_,List.getElem?_eq_getElem Ya⟩
  have hbd:=ht b (List.mem_of_getElem? hb)
  have q3:=ZgR hb
  have q4:IntKind.u8.wrap (((b.toNat:Nat):Int) - 48)=((b.toNat - 48:Nat):Int):=Yaa
  have q5:IntKind.i64.wrap (((b.toNat - 48:Nat):Int))=((b.toNat - 48:Nat):Int):=wrap_i64 Ya Ya
  have q6:dgt t i=b.toNat - 48:=by
   unfold dgt
   rw [if_neg Ya,List.getD,hb]
   rfl
  simp +decide only [go_sem,WR,WS,hi,q1,q2,q3,q4,q5,q6]
theorem ZeU (a b:Nat) (h:Heap):Runs K 186 #[.string (text (ds a)),.string (text (ds b))] h fun r _=>r= .int .i64 (if a < b then -1 else if a=b then 0 else 1):=by
 refine Runs.of Kok (Does.intro rfl Ye Tryz.func186 rfl ?_)
 by_cases h1:(((ds a).length:Nat):Int)=(((ds b).length:Nat):Int)
 case neg =>
  by_cases h2:(((ds a).length:Nat):Int) < (((ds b).length:Nat):Int)
  ·have:a < b:=Zkb Ya
   simp +decide only [go_sem,WR,WS,h1,h2,this]
  ·have h3:b < a:=Zkb Ya
   have h4:¬ a < b:=Ya
   have h5:¬ a=b:=Ya
   simp +decide only [go_sem,WR,WS,h1,h2,h4,h5]
 by_cases h2:a=b
 ·subst h2
  have h4:¬ a < a:=Ya
  simp +decide only [go_sem,WR,WS,h4]
 have h2':¬ text (ds a)=text (ds b):=fun hh=>h2 (Znc.1 (ZdT.1 hh))
 have h3:=Zkg (s:=ds a) (t:=ds b) Ya (ZbE a) (ZbE b)
 rw [Zeo,Zeo] at h3
 have t1:(text (ds a)).toList=ds a:=by rw [ByteArray.toList_eq];rfl
 have t2:(text (ds b)).toList=ds b:=by rw [ByteArray.toList_eq];rfl
 by_cases h4:a < b
 ·have h5:=h3.2 h4
  simp +decide only [go_sem,WR,WS,h1,h2',Zga,t1,t2,h5,h4]
 ·have h5:Op.bytesLess (ds a) (ds b)=false:=by
   cases hb:Op.bytesLess (ds a) (ds b) with
   | false=>rfl
   | true=>exact absurd (h3.1 hb) h4
  simp +decide only [go_sem,WR,WS,h1,h2',Zga,t1,t2,h5,h4,h2]
def iv (l:List Nat):List Value:=l.map fun (d:Nat)=> .int .i64 (d:Int)
theorem Zef (l:List Nat):(iv l).length=l.length:=by simp [iv]
theorem ZmG {l:List Nat} {i d:Nat} (h:l[i]? =some d):(iv l)[i]? =some (.int .i64 (d:Int)):=by simp [iv,h]
theorem ZmH (l r:List Nat):iv (l++r)=iv l++iv r:=by simp [iv]
theorem Zsq (l:List Nat) (k d:Nat):(iv l).set k (.int .i64 (d:Int))=iv (l.set k d):=by simp [iv,List.map_set]
theorem ZiW (ds:List Nat) (h:Heap) {a:Option Addr} {n c:Nat} (s:Sl h 1 a n c (iv ds)) (hd:∀ d ∈ ds,d≤9) (hn:n≤1000000):Runs K 189 #[.slice a n c] h fun r _=>r= .string (text (wr ds)):=by
 have hlen:ds.length=n:=by have:=s.length;rw [Zef] at this;omega
 refine Runs.of Kok (Does.intro rfl Ye Tryz.func189 rfl ?_)
 have q1:IntKind.i64.wrap ((n:Int)+1)=((n+1:Nat):Int):=Yd
 have q2:IntKind.i64.wrap ((n:Int) - 1)=(n:Int) - 1:=wrap_i64 Ya Ya
 have m1:imk h.size 1 1 [.int .u8 0] 0 ((n+1:Nat):Int)=some (.slice (some ⟨h.size,0,none⟩) 0 (n+1),some (.cells (List.replicate (n+1) (.int .u8 0)) 1)):=by
  rw [Ziw Ya Ya Ya Ya]
  simp [List.flatten_replicate_singleton]
 obtain ⟨w1,e1,x1,hs1,g1⟩:=lay1 h (.cells (List.replicate (n+1) (.int .u8 0)) 1)
 simp +decide only [go_sem,WR,WS,q1,m1,e1,q2]
 refine Zah (α:=Nat) (fun k e w=>k≤n∧e.size=31∧Ext h w∧h.size < w.size∧e.get 0= .slice a n c∧e.get 3= .slice (some ⟨h.size,0,none⟩) (n - k) (n+1)∧e.get 4= .int .i64 ((k:Int) - 1) ∧
  w.get h.size= .cells (byteCells ((ds.drop k).reverse.map fun d=>UInt8.ofNat (48+d))++List.replicate (k+1) (.int .u8 0)) 1) (fun k=>k) n ?_ ?_
 ·refine ⟨Nat.le_refl _,Yc,x1,by omega,Yc,by simp +decide only [go_sem,Nat.sub_self],Yc,?_⟩
  rw [g1,List.drop_of_length_le Ya]
  simp [byteCells]
 ·rintro k e w ⟨hk,hsz,hxw,hws,e0,e3,e4,gw⟩ next
  have hxl:((ds.drop k).reverse.map fun d=>UInt8.ofNat (48+d)).length=n - k:=Yl
  by_cases hk0:(0:Int)≤(k:Int) - 1
  ·obtain ⟨j,rfl⟩:∃ j,k=j+1:=⟨k - 1,by omega⟩
   obtain ⟨d,hdj⟩:∃ d,ds[j]? =some d:=⟨_,List.getElem?_eq_getElem Ya⟩
   have hd9:=hd d (List.mem_of_getElem? hdj)
   obtain ⟨b,o,cs,rfl,hb,hgb,hcb⟩:=(s.ext hxw).one (ZmG hdj)
   have q3:(((j+1:Nat):Int) - 1).toNat=j:=Ya
   have q4:((j+1:Nat):Int) - 1 < (n:Int):=Ya
   have q5:IntKind.i64.wrap (48+(d:Int))=((48+d:Nat):Int):=Yd
   have q6:IntKind.u8.wrap (((48+d:Nat):Int))=((48+d:Nat):Int):=wrap_u8 Ya Ya
   have q7:IntKind.i64.wrap (((j+1:Nat):Int) - 1 - 1)=(j:Int) - 1:=Yd
   obtain ⟨w2,e2,x2,hs2,g2⟩:=lay1 w (.cells [.int .u8 ((48+d:Nat):Int)] 1)
   have gw2:w2.get h.size=_:=(x2.2 _ hws).trans gw
   have hnum:((UInt8.ofNat (48+d)).toNat:Int)=((48+d:Nat):Int):=by
    have e:48+d < 256:=Ya
    rw [UInt8.toNat_ofNat_of_lt' Yaf]
   have hroom:=Ziz (low:=h.size) (bytes:=1) (o:=0) (n:=n - (j+1)) (k:=1) (cap:=n+1) (new:=[.int .u8 ((48+d:Nat):Int)]) gw2 (Nat.le_refl _) Ya Ya Ya YC Y9
   have hsp:splice (byteCells ((ds.drop (j+1)).reverse.map fun d=>UInt8.ofNat (48+d))++List.replicate (j+1+1) (.int .u8 0)) (0+(n - (j+1))*1) [.int .u8 ((48+d:Nat):Int)]=byteCells ((ds.drop j).reverse.map fun d=>UInt8.ofNat (48+d))++List.replicate (j+1) (.int .u8 0):=by
    have e1:ds.drop j=d::ds.drop (j+1):=by
     rw [List.drop_eq_getElem_cons (show j < ds.length by omega),(List.getElem?_eq_some_iff.1 hdj).2]
    rw [Nat.zero_add,Nat.mul_one,← hxl,← hnum,ZfK,e1]
    simp
   rw [hsp] at hroom
   obtain ⟨w3,e3',x3,hs3,g3,k3⟩:=put1 (hxw.trans x2) (Nat.le_refl _) (.cells (byteCells ((ds.drop j).reverse.map fun d=>UInt8.ofNat (48+d))++List.replicate (j+1) (.int .u8 0)) 1)
   simp +decide only [go_sem,WR,WS,hsz,e0,e3,e4,hk0,q3,q4,Nat.mul_one,hgb,hcb,q5,q6,e2,g2,hroom,e3',q7]
   refine next j _ _ ⟨by omega,Yb,x3,by omega,Yf,?_,Yb,g3⟩ Ya
   have:n - (j+1)+1=n - j:=by omega
   simp +decide only [go_sem,WR,WS,hsz,this]
  ·have hk0':k=0:=by omega
   subst hk0'
   by_cases hn0:n=0
   ·subst hn0
    have:ds=[]:=List.eq_nil_of_length_eq_zero hlen
    subst this
    simp +decide only [go_sem,WR,WS,hsz,e0,e3,e4,hk0]
    rfl
   ·have q8:¬ ((n:Nat):Int)=0:=by omega
    have hne:ds≠[]:=by
     rintro rfl
     simp at hlen
     omega
    have hisl:isl (.cells (byteCells ((ds.drop 0).reverse.map fun d=>UInt8.ofNat (48+d))++List.replicate (0+1) (.int .u8 0)) 1) 1 0 n=some (byteCells (ds.reverse.map fun d=>UInt8.ofNat (48+d))):=by
     rw [Zin,if_pos ⟨rfl,by simp [byteCells];omega⟩]
     simp only [List.drop_zero,Nat.mul_one]
     rw [List.take_append_of_le_length Y9,List.take_of_length_le Y9]
    have hrd:(w.get h.size).read= .cells (byteCells ((ds.drop 0).reverse.map fun d=>UInt8.ofNat (48+d))++List.replicate (0+1) (.int .u8 0)) 1:=by rw [gw];rfl
    generalize Blk.cells (byteCells ((ds.drop 0).reverse.map fun d=>UInt8.ofNat (48+d))++List.replicate (0+1) (.int .u8 0)) 1=blk at hisl hrd
    simp +decide only [go_sem,WR,WS,hsz,e0,e3,e4,hk0,Nat.sub_zero,q8,hrd,hisl,Zcs]
    refine Zaa Kok hxw.1 (ZaI _ w Yl) fun r w2 x2 hr=> ?_
    subst hr
    simp +decide only [go_sem,WR,WS,hsz]
    rw [Dec.wr,if_neg hne]
theorem Zgr (l:List Nat) (h:Heap) {a:Option Addr} {n c:Nat} (s:Sl h 1 a n c (iv l)) (hd:∀ d ∈ l,d≤9) (hn:n≤1000000):Runs K 189 #[.slice a n c] h fun r _=>r= .string (text (ds (v10 l))):=by
 have:=ZiW l h s hd hn
 rwa [Zuz hd] at this
end Go.Proofs.YtachkofbmodnnaaGreat.R1
namespace Go.Proofs.YtachkofbmodnnaaGreat.N13
open Go Go.Im Go.Im.Limbs Go.Proofs Go.RowKit Hd N1 N2 N10 N11 N12
set_option maxRecDepth 100000
def IntV (h:Heap) (v:Value) (m:Nat) (s:Bool):Prop:=∃ p,v= .agg #[p,.bool s]∧NatV h (.agg #[p]) m
def RatV (h:Heap) (v:Value) (m:Nat) (s:Bool) (k:Nat):Prop:=∃ p q,v= .agg #[p,.bool s,q]∧NatV h (.agg #[p]) m∧NatV h (.agg #[q]) k
theorem Zaf {h:Heap} {p:Value} {m:Nat} (H:NatV h (.agg #[p]) m):∃ a n c,p= .slice a n c:=by
 obtain ⟨a,n,c,h1,_⟩:=H
 have:=congrArg (fun v=>match v with | .agg xs=>xs[0]? | _=>none) h1
 simp at this
 exact ⟨a,n,c,this⟩
theorem ZnY (h:Heap) {v:Value} {m:Nat} {s:Bool} (hv:IntV h v m s):Runs K 175 #[v] h fun r w=>NatV w r m:=by
 obtain ⟨p,rfl,hp⟩:=hv
 obtain ⟨a,n,c,rfl⟩:=Zaf hp
 refine Runs.of Kok (Does.intro rfl Ye Tryz.func175 rfl ?_)
 obtain ⟨w0,e0,x0,hs0,z0,z1⟩:=lay2 h (.cells [.slice a n c,.bool s] 2) (.cells [.slice none 0 0] 1)
 have j1:h.size≤h.size+1:=Ya
 obtain ⟨w1,e1,x1,hs1,g1,k1⟩:=put1 x0 j1 (.cells [.slice a n c] 1)
 simp +decide only [go_sem,WR,WS,e0,z0,z1,j1,e1,g1]
 exact (hp.ext x0).over z1 Yn Yn hs1 g1 k1
theorem Zmn (h:Heap) {v:Value} {m:Nat} {s:Bool} (hv:IntV h v m s):Runs K 177 #[v] h fun r _=>r= .bool s:=by
 obtain ⟨p,rfl,hp⟩:=hv
 obtain ⟨a,n,c,rfl⟩:=Zaf hp
 refine Runs.of Kok (Does.intro rfl Ye Tryz.func177 rfl ?_)
 simp +decide only [go_sem,WR,WS]
theorem ZfA (h:Heap) {v:Value} {m:Nat} (s:Bool) (hv:NatV h v m):Runs K 140 #[.bool s,v] h fun r w=>IntV w r m (s && decide (m≠0)):=by
 obtain ⟨a,n,c,rfl,hs⟩:=hv
 have hv:NatV h (.agg #[.slice a n c]) m:=⟨a,n,c,rfl,hs⟩
 refine Runs.of Kok (Does.intro rfl Ye Tryz.func140 rfl ?_)
 obtain ⟨w0,e0,x0,hs0,z0,z1⟩:=lay2 h (.cells [.slice a n c] 1) (.cells [.slice none 0 0,.bool false] 2)
 have j1:h.size≤h.size+1:=Ya
 cases s with
 | false =>
   obtain ⟨w1,e1,x1,hs1,g1,k1⟩:=put1 x0 j1 (.cells [.slice a n c,.bool false] 2)
   simp +decide only [go_sem,WR,WS,e0,z0,z1,j1,e1,g1]
   exact ⟨.slice a n c,by simp,(hv.ext x0).over z1 Yn Yn hs1 g1 k1⟩
 | true =>
   simp +decide only [go_sem,WR,WS,e0,z0]
   refine Zaa Kok Ya (Zbq m w0 (hv.ext x0)) fun r w1 x1 hr=> ?_
   subst hr
   have z1:w1.get (h.size+1)=_:=(x1.2 _ Ya).trans z1
   by_cases hm:m=0
   ·obtain ⟨w2,e2,x2,hs2,g2,k2⟩:=put1 (x0.trans x1) j1 (.cells [.slice a n c,.bool false] 2)
    simp +decide only [go_sem,WR,WS,hm,z1,j1,e2,g2]
    exact ⟨.slice a n c,by simp,by rw [hm] at hv;exact ((hv.ext x0).ext x1).over z1 Yn Yn hs2 g2 k2⟩
   ·obtain ⟨w2,e2,x2,hs2,g2,k2⟩:=put1 (x0.trans x1) j1 (.cells [.slice a n c,.bool true] 2)
    simp +decide only [go_sem,WR,WS,hm,z1,j1,e2,g2]
    exact ⟨.slice a n c,by simp [hm],((hv.ext x0).ext x1).over z1 Yn Yn hs2 g2 k2⟩
theorem ZdQ (h:Heap) {v:Value} {m:Nat} {s:Bool} (hv:IntV h v m s):Runs K 139 #[v] h fun r w=>RatV w r m s 1:=by
 obtain ⟨p,rfl,hp⟩:=hv
 obtain ⟨a,n,c,rfl⟩:=Zaf hp
 refine Runs.of Kok (Does.intro rfl Ye Tryz.func139 rfl ?_)
 obtain ⟨w0,e0,x0,hs0,z0,z1⟩:=lay2 h (.cells [.slice a n c,.bool s] 2) (.cells [.slice none 0 0,.bool false,.slice none 0 0] 3)
 have j1:h.size≤h.size+1:=Ya
 simp +decide only [go_sem,WR,WS,e0,z0]
 refine Zaa Kok Ya (of_run 1 w0 Ya) fun r w1 x1 hr=> ?_
 obtain ⟨a1,c1,rfl,s1⟩:=hr.open
 have z1:w1.get (h.size+1)=_:=(x1.2 _ Ya).trans z1
 obtain ⟨w2,e2,x2,hs2,g2,k2⟩:=put1 (x0.trans x1) j1 (.cells [.slice a n c,.bool s,.slice a1 (dig 1).length c1] 3)
 simp +decide only [go_sem,WR,WS,z1,j1,e2,g2]
 exact ⟨_,_,rfl,((hp.ext x0).ext x1).over z1 Yn Yn hs2 g2 k2,hr.over z1 Yn Yn hs2 g2 k2⟩
theorem ZoT (h:Heap) {v:Value} {m k:Nat} {s:Bool} (hv:RatV h v m s k) (hk:k≠0):Runs K 178 #[v] h fun r w=>NatV w r k:=by
 obtain ⟨p,q,rfl,hp,hq⟩:=hv
 obtain ⟨a,n,c,rfl⟩:=Zaf hp
 obtain ⟨a',n',c',rfl⟩:=Zaf hq
 refine Runs.of Kok (Does.intro rfl Ye Tryz.func178 rfl ?_)
 obtain ⟨w0,e0,x0,hs0,z0,z1⟩:=lay2 h (.cells [.slice a n c,.bool s,.slice a' n' c'] 3) (.cells [.slice none 0 0] 1)
 have j1:h.size≤h.size+1:=Ya
 simp +decide only [go_sem,WR,WS,e0,z0]
 refine Zaa Kok Ya (Zbq k w0 (hq.ext x0)) fun r w1 x1 hr=> ?_
 subst hr
 have z0:w1.get h.size=_:=(x1.2 _ Ya).trans z0
 have z1:w1.get (h.size+1)=_:=(x1.2 _ Ya).trans z1
 obtain ⟨w2,e2,x2,hs2,g2,k2⟩:=put1 (x0.trans x1) j1 (.cells [.slice a' n' c'] 1)
 simp +decide only [go_sem,WR,WS,hk,z0,z1,j1,e2,g2]
 exact ((hq.ext x0).ext x1).over z1 Yn Yn hs2 g2 k2
theorem Zci (h:Heap) {v:Value} {m k:Nat} {s:Bool} (hv:RatV h v m s k) (hk:k≠0):Runs K 167 #[v] h fun r w=>IntV w r k false:=by
 obtain ⟨p,q,rfl,hp,hq⟩:=hv
 obtain ⟨a,n,c,rfl⟩:=Zaf hp
 obtain ⟨a',n',c',rfl⟩:=Zaf hq
 refine Runs.of Kok (Does.intro rfl Ye Tryz.func167 rfl ?_)
 obtain ⟨w0,e0,x0,hs0,z0,z1⟩:=lay2 h (.cells [.slice a n c,.bool s,.slice a' n' c'] 3) (.cells [.slice none 0 0,.bool false] 2)
 have j1:h.size≤h.size+1:=Ya
 simp +decide only [go_sem,WR,WS,e0,z0]
 refine Zaa Kok Ya (ZoT w0 (m:=m) (s:=s) ⟨_,_,rfl,hp.ext x0,hq.ext x0⟩ hk) fun r w1 x1 hr=> ?_
 simp +decide only [go_sem,WR,WS]
 refine Zaa Kok (by have:=x1.1;omega) (ZfA w1 false hr) fun r w2 x2 hr=> ?_
 obtain ⟨p2,rfl,hp2⟩:=hr
 have z1:w2.get (h.size+1)=_:=((x1.trans x2).2 _ Ya).trans z1
 obtain ⟨a2,n2,c2,rfl⟩:=Zaf hp2
 obtain ⟨w3,e3,x3,hs3,g3,k3⟩:=put1 (x0.trans (x1.trans x2)) j1 (.cells [.slice a2 n2 c2,.bool false] 2)
 simp +decide only [go_sem,WR,WS,Bool.false_and,z1,j1,e3,g3]
 exact ⟨_,rfl,hp2.over z1 Yn Yn hs3 g3 k3⟩
set_option maxHeartbeats 4000000 in
theorem Zdi (h:Heap) {v q:Value} {m k b:Nat} {s t:Bool} (hv:IntV h v m s) (hb:b < h.size) (hg:h.get b= .cells [q,.bool t] 2) (hq:NatV h (.agg #[q]) k) (l1:(dig m).length≤549755813) (l2:(dig k).length≤549755813) :
  Runs K 166 #[v,.slice (some ⟨b,0,none⟩) 1 1] h fun r w=>IntV w r (m*k) ((s != t) && decide (m*k≠0)):=by
 obtain ⟨p,rfl,hp⟩:=hv
 obtain ⟨a,n,c,rfl⟩:=Zaf hp
 obtain ⟨a',n',c',rfl⟩:=Zaf hq
 refine Runs.of Kok (Does.intro rfl Ye Tryz.func166 rfl ?_)
 obtain ⟨w0,e0,x0,hs0,z0,z1⟩:=lay2 h (.cells [.slice a n c,.bool s] 2) (.cells [.slice none 0 0,.bool false] 2)
 have j1:h.size≤h.size+1:=Ya
 simp +decide only [go_sem,WR,WS,e0]
 rw [Za8]
 have hg0:w0.get b=_:=(x0.2 _ hb).trans hg
 obtain ⟨w1,e1,x1,hs1,g1⟩:=lay1 w0 (.cells [.slice none 0 0,.bool false] 2)
 have k1:h.size≤w0.size:=Ya
 have hg1:w1.get b=_:=(x1.2 _ Ya).trans hg0
 obtain ⟨w2,e2,x2,hs2,g2,k2⟩:=put1 (x0.trans x1) k1 (.cells [.slice a' n' c',.bool t] 2)
 have z0:w2.get h.size=_:=(k2 _ Ya).trans ((x1.2 _ Ya).trans z0)
 have z1:w2.get (h.size+1)=_:=(k2 _ Ya).trans ((x1.2 _ Ya).trans z1)
 have np:NatV w2 (.agg #[.slice a n c]) m:=((hp.ext x0).ext x1).over g1 Yn Yn hs2 g2 k2
 have nq:NatV w2 (.agg #[.slice a' n' c']) k:=((hq.ext x0).ext x1).over g1 Yn Yn hs2 g2 k2
 have hbb:¬ b=w0.size:=Ya
 simp +decide only [go_sem,WR,WS,e1,hg0,g1,hbb,k1,e2,z0,g2]
 refine Zaa Kok Ya (ZfW m k w2 np nq Ya Ya) fun r w3 x3 hr=> ?_
 simp +decide only [go_sem,WR,WS]
 refine Zaa Kok (by have:=x3.1;omega) (ZfA w3 _ hr) fun r w4 x4 hr=> ?_
 obtain ⟨p4,rfl,hp4⟩:=hr
 obtain ⟨a4,n4,c4,rfl⟩:=Zaf hp4
 have x34:=x3.trans x4
 have z0:w4.get h.size=_:=(x34.2 _ Ya).trans z0
 have z1:w4.get (h.size+1)=_:=(x34.2 _ Ya).trans z1
 obtain ⟨bs,hbs⟩:∃ bs,bs=(!decide (s=t) && decide (m*k≠0)):=⟨_,rfl⟩
 obtain ⟨w5,e5,x5,hs5,g5,k5⟩:=put1 (x2.trans x34) (Nat.le_refl h.size) (.cells [.slice a4 n4 c4,.bool bs] 2)
 have z1:w5.get (h.size+1)=_:=(k5 _ Ya).trans z1
 obtain ⟨w6,e6,x6,hs6,g6,k6⟩:=put1 x5 j1 (.cells [.slice a4 n4 c4,.bool bs] 2)
 have i1:IntKind.i64.wrap (0+1)=1:=wrap_i64 Ya Ya
 have z0':w4.get h.size= .cells [.slice a n c,.bool s] 2:=z0
 simp +decide only [go_sem,WR,WS,← hbs,z0,Nat.le_refl,e5,i1]
 rw [Za8]
 simp +decide only [go_sem,WR,WS,g5,z1,j1,e6,g6]
 refine ⟨_,?_,(hp4.over z0' Yn Yn hs5 g5 k5).over z1 Yn Yn hs6 g6 k6⟩
 rw [hbs]
 cases s<;>cases t<;>simp
set_option maxHeartbeats 4000000 in
theorem ZfU (h:Heap) {v u:Value} {m k:Nat} {s t:Bool} (hv:IntV h v m s) (hu:IntV h u k t) (hk:k≠0) (l1:(dig m).length≤549755813) (l2:(dig k).length≤549755813) :
  Runs K 165 #[v,u] h fun r w=>∃ q,r= .tuple #[q,.bool true]∧RatV w q (m / Nat.gcd m k) ((s != t) && decide (m / Nat.gcd m k≠0)) (k / Nat.gcd m k):=by
 obtain ⟨p,rfl,hp⟩:=hv
 obtain ⟨a,n,c,rfl⟩:=Zaf hp
 obtain ⟨q,rfl,hq⟩:=hu
 obtain ⟨a',n',c',rfl⟩:=Zaf hq
 have hg0:Nat.gcd m k≠0:=fun h0=>hk (Nat.eq_zero_of_gcd_eq_zero_right h0)
 have lg:(dig (Nat.gcd m k)).length≤549755813:=Nat.le_trans (Zen (Nat.le_of_dvd Ya (Nat.gcd_dvd_right m k))) l2
 refine Runs.of Kok (Does.intro rfl Ye Tryz.func165 rfl ?_)
 obtain ⟨w0,e0,x0,hs0,z0,z1,z2⟩:=lay3 h (.cells [.slice a n c,.bool s] 2) (.cells [.slice a' n' c',.bool t] 2) (.cells [.slice none 0 0,.bool false,.slice none 0 0] 3)
 have j2:h.size≤h.size+2:=Ya
 simp +decide only [go_sem,WR,WS,e0,z1]
 refine Zaa Kok Ya (Zbq k w0 (hq.ext x0)) fun r w1 x1 hr=> ?_
 subst hr
 have y0:w1.get h.size=_:=(x1.2 _ Ya).trans z0
 have y1:w1.get (h.size+1)=_:=(x1.2 _ Ya).trans z1
 have y2:w1.get (h.size+2)=_:=(x1.2 _ Ya).trans z2
 have t1:w0.size≤w1.size:=x1.1
 have np1:=(hp.ext x0).ext x1
 have nq1:=(hq.ext x0).ext x1
 simp +decide only [go_sem,WR,WS,hk,y0,y1]
 refine Zaa Kok Ya (ZnY w1 (m:=k) (s:=t) ⟨_,rfl,nq1⟩) fun r w2 x2 hr=> ?_
 simp +decide only [go_sem,WR,WS]
 refine Zaa Kok (by have:=x2.1;omega) (Zjy m k w2 (np1.ext x2) hr l1 l2) fun r w3 x3 hr=> ?_
 obtain ⟨ag,cg,rfl,sg⟩:=hr.open
 have x13:=x2.trans x3
 obtain ⟨w4,e4,x4,hs4,g4⟩:=lay1 w3 (.cells [.slice none 0 0] 1)
 have t3:w1.size≤w3.size:=x13.1
 have k3:h.size≤w3.size:=Ya
 have hx3:=x0.trans (x1.trans x13)
 obtain ⟨w5,e5,x5,hs5,g5,k5⟩:=put1 (hx3.trans x4) k3 (.cells [.slice ag (dig (Nat.gcd m k)).length cg] 1)
 have x14:=x13.trans x4
 have y0:w5.get h.size=_:=(k5 _ Ya).trans ((x14.2 _ Ya).trans y0)
 have y1:w5.get (h.size+1)=_:=(k5 _ Ya).trans ((x14.2 _ Ya).trans y1)
 have y2:w5.get (h.size+2)=_:=(k5 _ Ya).trans ((x14.2 _ Ya).trans y2)
 have np5:NatV w5 (.agg #[.slice a n c]) m:=(np1.ext x14).over g4 Yn Yn hs5 g5 k5
 have nq5:NatV w5 (.agg #[.slice a' n' c']) k:=(nq1.ext x14).over g4 Yn Yn hs5 g5 k5
 have ng5:NatV w5 (.agg #[.slice ag (dig (Nat.gcd m k)).length cg]) (Nat.gcd m k):=(hr.ext x4).over g4 Yn Yn hs5 g5 k5
 simp +decide only [go_sem,WR,WS,e4,g4,k3,e5,y0,g5]
 refine Zaa Kok Ya (Zbp m (Nat.gcd m k) w5 np5 ng5 l1) fun r w6 x6 hr6=> ?_
 obtain ⟨qa,ra,rfl,hqa,hra⟩:=hr6
 rw [if_neg hg0] at hqa hra
 obtain ⟨aq,cq,rfl,sq⟩:=hqa.open
 obtain ⟨ar,cr,rfl,sr⟩:=hra.open
 obtain ⟨w7,e7,x7,hs7,g7,g7'⟩:=lay2 w6 (.cells [.slice none 0 0] 1) (.cells [.slice none 0 0] 1)
 have t6:w5.size≤w6.size:=x6.1
 have k6:h.size≤w6.size:=Ya
 have k6':h.size≤w6.size+1:=Ya
 have x67:=x6.trans x7
 obtain ⟨w8,e8,x8,hs8,g8,k8⟩:=put1 (x5.trans x67) k6 (.cells [.slice aq (dig (m / Nat.gcd m k)).length cq] 1)
 have g8':w8.get (w6.size+1)= .cells [.slice none 0 0] 1:=(k8 _ Ya).trans g7'
 obtain ⟨w9,e9,x9,hs9,g9,k9⟩:=put1 x8 k6' (.cells [.slice ar (dig (m%Nat.gcd m k)).length cr] 1)
 have mv:∀ q (hq:q < w5.size),w9.get q=w5.get q:=fun q hq=>(k9 _ Ya).trans ((k8 _ Ya).trans (x67.2 _ hq))
 have y0:w9.get h.size=_:=(mv _ Ya).trans y0
 have y1:w9.get (h.size+1)=_:=(mv _ Ya).trans y1
 have y2:w9.get (h.size+2)=_:=(mv _ Ya).trans y2
 have gg9:w9.get w3.size=_:=(mv _ Ya).trans g5
 have gq9:w9.get w6.size= .cells [.slice aq (dig (m / Nat.gcd m k)).length cq] 1:=(k9 _ Ya).trans g8
 have up9:∀ {v:Value} {M:Nat},NatV w7 v M→NatV w9 v M:=fun H=>(H.over g7 Yn Yn hs8 g8 k8).over g8' Yn Yn hs9 g9 k9
 have nq9:=up9 (nq5.ext x67)
 have ng9:=up9 (ng5.ext x67)
 have na9:=up9 (hqa.ext x7)
 simp +decide only [go_sem,WR,WS,e7,g7,k6,e8,g8',k6',e9,y1,gg9]
 refine Zaa Kok Ya (Zbp k (Nat.gcd m k) w9 nq9 ng9 l2) fun r wa xa hra=> ?_
 obtain ⟨qb,rb,rfl,hqb,hrb⟩:=hra
 rw [if_neg hg0] at hqb hrb
 obtain ⟨aq',cq',rfl,sq'⟩:=hqb.open
 obtain ⟨ar',cr',rfl,sr'⟩:=hrb.open
 obtain ⟨wb,eb,xb,hsb,gb,gb'⟩:=lay2 wa (.cells [.slice none 0 0] 1) (.cells [.slice none 0 0] 1)
 have ta:w9.size≤wa.size:=xa.1
 have ka:h.size≤wa.size:=Ya
 have ka':h.size≤wa.size+1:=Ya
 have xab:=xa.trans xb
 obtain ⟨wc,ec,xc,hsc,gc,kc⟩:=put1 (x9.trans xab) ka (.cells [.slice aq' (dig (k / Nat.gcd m k)).length cq'] 1)
 have gc':wc.get (wa.size+1)= .cells [.slice none 0 0] 1:=(kc _ Ya).trans gb'
 obtain ⟨wd,ed,xd,hsd,gd,kd⟩:=put1 xc ka' (.cells [.slice ar' (dig (k%Nat.gcd m k)).length cr'] 1)
 have mv:∀ q (hq:q < w9.size),wd.get q=w9.get q:=fun q hq=>(kd _ Ya).trans ((kc _ Ya).trans (xab.2 _ hq))
 have y0:wd.get h.size=_:=(mv _ Ya).trans y0
 have y1:wd.get (h.size+1)=_:=(mv _ Ya).trans y1
 have y2:wd.get (h.size+2)=_:=(mv _ Ya).trans y2
 have gqd:wd.get w6.size=_:=(mv _ Ya).trans gq9
 have gbd:wd.get wa.size= .cells [.slice aq' (dig (k / Nat.gcd m k)).length cq'] 1:=(kd _ Ya).trans gc
 have upd:∀ {v:Value} {M:Nat},NatV wb v M→NatV wd v M:=fun H=>(H.over gb Yn Yn hsc gc kc).over gc' Yn Yn hsd gd kd
 have npd:=upd (up9 (np5.ext x67) |>.ext xab)
 have nqd:=upd (nq9.ext xab)
 have nad:=upd (na9.ext xab)
 have nbd:=upd (hqb.ext xb)
 simp +decide only [go_sem,WR,WS,eb,gb,ka,ec,gc',ka',ed,y0]
 refine Zaa Kok Ya (Zmn wd (m:=m) (s:=s) ⟨_,rfl,npd⟩) fun r we xe hre=> ?_
 subst hre
 have y1:we.get (h.size+1)=_:=(xe.2 _ Ya).trans y1
 simp +decide only [go_sem,WR,WS,y1]
 refine Zaa Kok (by have:=xe.1;omega) (Zmn we (m:=k) (s:=t) ⟨_,rfl,nqd.ext xe⟩) fun r wf xf hrf=> ?_
 subst hrf
 have xef:=xe.trans xf
 have gqf:wf.get w6.size=_:=(xef.2 _ Ya).trans gqd
 simp +decide only [go_sem,WR,WS,gqf]
 refine Zaa Kok (by have:=xef.1;omega) (ZfA wf _ (nad.ext xef)) fun r wg xg hrg=> ?_
 obtain ⟨pg,rfl,hpg⟩:=hrg
 obtain ⟨a4,n4,c4,rfl⟩:=Zaf hpg
 have xeg:=xef.trans xg
 have gbg:wg.get wa.size=_:=(xeg.2 _ Ya).trans gbd
 have y2:wg.get (h.size+2)=_:=(xeg.2 _ Ya).trans y2
 obtain ⟨bs,hbs⟩:∃ bs,bs=(!decide (s=t) && decide (m / Nat.gcd m k≠0)):=⟨_,rfl⟩
 obtain ⟨wh,eh,xh,hsh,gh,kh⟩:=put1 (xd.trans xeg) j2 (.cells [.slice a4 n4 c4,.bool bs,.slice aq' (dig (k / Nat.gcd m k)).length cq'] 3)
 simp +decide only [go_sem,WR,WS,← hbs,gbg,y2,j2,eh,gh]
 refine ⟨_,rfl,_,_,?_,hpg.over y2 Yn Yn hsh gh kh,(nbd.ext xeg).over y2 Yn Yn hsh gh kh⟩
 rw [hbs]
 cases s<;>cases t<;>simp
end Go.Proofs.YtachkofbmodnnaaGreat.N13
