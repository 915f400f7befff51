/- Proved here: parts of the way to BEditBack (BD10 BD11 BD12 BD13 BD14 BD15 BD17 BD18 BD19); no condition beyond those that each theorem names. -/
import Derived.Test.YtachkofbmodnnaaGreatG23
set_option linter.unusedSimpArgs false
set_option linter.unusedVariables false
namespace Go.Proofs.YtachkofbmodnnaaGreat.D10
open Go Go.Im Go.Im.Limbs Go.Im.Lexing Go.Im.Heads Go.Im.Editing Go.Im.Defn Go.Proofs Go.RowKit Hd H2 H4 H5 H8 N23 D4 E2 E7 D5 D8 D9
set_option maxRecDepth 100000
theorem Zlm {rows:Editing.Rows} {h:Heap} {a:Option Addr} {c:Nat} (s:Sl h 2 a rows.length c (erv rows)) (h0:0 < rows.length) (hm:rows.length≤1000) :
  Runs K 56 #[.slice a rows.length c] h fun r w=>Own h.size w 2 r rows.length (erv rows):=by
 refine Runs.of Kok (Does.intro rfl Ye Tryz.func56 rfl ?_)
 obtain ⟨w1,e1,x1,hs1,g1⟩:=lay1 h (.cells [] 2)
 obtain ⟨w2,e2,x2,hs2,g2⟩:=lay1 w1 (.cells (erv rows) 2)
 have e3:=Zkz (low:=h.size) (bytes:=24) (new:=erv rows) (k:=rows.length) g1 Ya h0 (ZaT rows) Ya Ya
 rw [e2] at e3
 have hi:=(s.ext x1).isl
 obtain ⟨b,o,cs,rfl,_⟩:=s.at (i:=0) h0
 simp +decide only [go_sem,WR,WS,e1,hi,e3]
 exact .inr ⟨w1.size,rfl,x1.1,by omega,g2,ZaT rows⟩
theorem Zfv (x:EdT) (h0:0 < x.rows.length) (hm:x.rows.length≤1000) (h:Heap) {v:Value} (V:EV h v x):Runs K 27 #[v] h fun r w=>∃ q b,r= .pointer (some ⟨q,0,none⟩)∧EP h.size w q b x:=by
 obtain ⟨q,a,c,rfl,hq,hg,s⟩:=V
 refine Runs.of Kok (Does.intro rfl Ye Tryz.func27 rfl ?_)
 simp +decide only [go_sem,WR,WS,hg]
 refine Zaa Kok (Nat.le_refl _) (Zlm s h0 hm) fun r w1 x1 hr=> ?_
 rcases hr with ⟨_,h1,_⟩ | ⟨b,rfl,h1,h2,h3,h4⟩
 ·omega
 have g1:w1.get q=_:=(x1.2 q hq).trans hg
 obtain ⟨w2,e2,x2,hs2,z2⟩:=lay1 w1 (.cells [.slice (some ⟨b,0,none⟩) x.rows.length big,.int .i64 (x.nx:Int)] 2)
 simp +decide only [go_sem,WS,g1,e2]
 exact ⟨w1.size,b,rfl,⟨x1.1,by omega,h1,by omega,by omega,z2,erv x.rows,by rw [x2.2 b h2,h3],by omega,by rw [← h4,List.take_length]⟩⟩
theorem Zkv (h:Heap):Runs K 27 #[.pointer none] h fun r w=>h=w∧r= .pointer none:=by
 refine Runs.of Kok (Does.intro rfl Ye Tryz.func27 rfl ?_)
 simp +decide only [go_sem,WR,WS]
theorem Zov:K.ext 72=some X7.ZgP:=rfl
theorem Zjr {low:Nat} {h:Heap} {b n i vb vc:Nat} {cs:List Value} {p:Nat × ByteArray} (hlow:low≤h.size) (hl:low≤b) (hb:b < h.size) (hvb:vb < h.size) (hne:vb≠b) (hg:h.get b= .cells cs 2) (hn:n*2≤cs.length) (hi:i≤n) (h0:0 < n) (hm:n≤1000) (hv:h.get vb= .cells [.int .i64 (p.1:Int),.string p.2] 2) :
  Does K low 72 #[.slice (some ⟨b,0,none⟩) n big,.int .i64 (i:Int),.slice (some ⟨vb,0,none⟩) 1 vc] h fun r w=>r= .slice (some ⟨h.size+1,0,none⟩) (n+1) big∧w.size=h.size+2∧(∀ c,c < h.size→c≠b→w.get c=h.get c) ∧
   w.get (h.size+1)= .cells ((cs.take (n*2)).take (i*2)++[.int .i64 (p.1:Int),.string p.2]++(cs.take (n*2)).drop (i*2)) 2:=by
 have ha:X7.Zei low #[.slice (some ⟨b,0,none⟩) n big,.int .i64 (i:Int),.slice (some ⟨vb,0,none⟩) 1 vc] h=some ⟨b,n,i,vb,0,vc,cs,[.int .i64 (p.1:Int),.string p.2]⟩:=by
  simp only [X7.Zei]
  rw [if_pos ⟨hl,trivial,hne,trivial,trivial,by omega,by omega,h0,by omega⟩]
  simp only [hg,hv]
  rw [if_pos ⟨hn,by simp⟩]
  simp
 refine Zdh Zov (v:= .slice (some ⟨h.size+1,0,none⟩) (n+1) big) (w:=X7.Zcf h ⟨b,n,i,vb,0,vc,cs,[.int .i64 (p.1:Int),.string p.2]⟩) (by simp only [X7.ZgP,ha]) ⟨rfl,by simp [X7.Zcf],fun c hc hcb=> ?_,?_⟩
 ·simp only [X7.Zcf]
  rw [Heap.Zam,if_neg Yl,Heap.Zae,if_neg Ya,Heap.Zam,if_neg Yl,Heap.Zae,if_neg hcb]
 ·simp only [X7.Zcf,X7.Zbh]
  rw [Heap.Zam,if_pos Yp]
  rfl
theorem Zk1 {l:List Int}:Zgj 0 l=if (hdp l).2=true then some (txtB (hdp l).1) else none:=rfl
theorem Zk3 {n:Nat} (h:n≠0) {l:List Int}:Zgj n l=if (lex l).isSome=true then some (runesBytes l) else none:=by rw [Zgj,if_neg h]
theorem ZjU {low:Nat} {h:Heap} (hlow:low≤h.size) {q b:Nat} {x:EdT} (E:EP low h q b x) (I:Inv x) {n:Nat} (hn:n≤9999999) {l:List Int} {tv:Value} (t:Ln h tv l) (htr:trimS l=l) (hm:l.length≤1000000) :
  Does K low 46 #[.pointer (some ⟨q,0,none⟩),.int .i64 (n:Int),tv] h fun r w=>∃ b',r= .bool (setS x n l).isSome∧EP low w q b' ((setS x n l).getD x)∧(b'=b∨h.size≤b')∧Frm (fun i=>i=q∨i=b) h w:=by
 obtain ⟨F,hF⟩:∃ F:Nat→Prop,F=fun i=>i=q∨i=b:=⟨_,rfl⟩
 have no:∀ {w:Heap},Ext h w→Zgj n l=none→∃ b',Value.bool false= .bool (setS x n l).isSome∧EP low w q b' ((setS x n l).getD x)∧(b'=b∨h.size≤b')∧Frm (fun i=>i=q∨i=b) h w:=by
  intro w xw hl
  have:setS x n l=none:=by simp only [setS,hl]
  rw [this]
  exact ⟨b,rfl,E.ext xw,.inl rfl,Frm.ext xw⟩
 obtain ⟨a,c,rfl⟩:=t.open
 refine Does.intro rfl Ye Tryz.func46 rfl ?_
 simp +decide only [go_sem,WR,WS]
 refine Zaa Kok hlow (ZaI l h t Ya) fun r w0 x0 hr=> ?_
 obtain ⟨hw,t0⟩:=hr
 have hw:=hw.symm
 subst hw
 rw [htr] at t0
 obtain ⟨a0,c0,rfl⟩:=t0.open
 have is0:=t0.Zak
 simp +decide only [go_sem,WS,is0,Zb0]
 apply Za1 (α:=ByteArray) (fun s e W=>e.size=80∧Zgj n l=some s∧Ext h W∧e.get 0= .pointer (some ⟨q,0,none⟩)∧e.get 1= .int .i64 (n:Int)∧e.get 7= .string s)
 ·intro cont
  by_cases h0:(n:Int)=0
  ·have hn0:n=0:=by omega
   (rw [WR];simp +decide only [go_sem,WS,eq_true h0])
   (rw [WR];simp +decide only [go_sem,WS])
   refine Zaa Kok hlow (Zd0 l h t.tx Ya) fun r w1 x1 hr=> ?_
   obtain ⟨pa,pc,rfl,s1⟩:=hr
   have G:=Zel l
   have hlz:Zgj n l=_:=(congrArg (Zgj · l) hn0).trans (Zk1 (l:=l))
   generalize hX:hdp l=X at s1 G hlz ⊢
   obtain ⟨y,ok⟩:=X
   simp only at s1 G hlz
   obtain ⟨w2,e2,x2,hs2,z2⟩:=lay1 w1 (.cells [.string ByteArray.empty,.string ByteArray.empty,.string ByteArray.empty,.string ByteArray.empty,.slice none 0 0] 5)
   obtain ⟨w3,e3,x3,hs3,z3,k3⟩:=put1 x2 (Nat.le_refl _) (.cells (H2.hl y (.slice pa y.ls.length pc)) 5)
   have x03:=x1.trans x3
   have j1:low≤w1.size:=Nat.le_trans hlow x1.1
   have txr:=ZjQ y w3 (s1.ext x3) (by have:=G.few;omega) (ZeO G)
   simp only [H2.hl] at e3 z3 txr
   cases ok with
   | false =>
     simp +decide only [go_sem,WR,WS,H2.hl,e2,z2,j1,e3]
     exact no x03 hlz
   | true =>
     simp +decide only [go_sem,WR,WS,H2.hl,e2,z2,j1,e3,z3]
     refine Zaa Kok (Nat.le_trans hlow x03.1) txr fun r w4 x4 hr=> ?_
     subst hr
     simp +decide only [go_sem,WS]
     exact cont (txtB y) _ _ ⟨Yc,hlz,x03.trans x4,Yc,Yc,Yc⟩
  ·have hn0:n≠0:=by omega
   (rw [WR];simp +decide only [go_sem,WS,h0])
   (rw [WR];simp +decide only [go_sem,WS])
   refine Zaa Kok hlow (ZaI l h t Ya) fun r w1 x1 hr=> ?_
   obtain ⟨hw,t1⟩:=hr
   have hw:=hw.symm
   subst hw
   rw [htr] at t1
   simp +decide only [go_sem,WS]
   refine Zaa Kok hlow (Zhm h t1.tx) fun r w3 x3 hr=> ?_
   have hlm:=Zk3 hn0 (l:=l)
   rcases hr with ⟨hlex,rfl⟩ | ⟨xs,xa,xc,hlex,hA,hxl,rfl,sx⟩
   ·rw [hlex] at hlm
    simp +decide only [go_sem,WR,WS]
    exact no x3 hlm
   ·rw [hlex] at hlm
    simp +decide only [go_sem,WS]
    (rw [WR];simp +decide only [go_sem,WS])
    exact cont (runesBytes l) _ _ ⟨Yc,hlm,x3,Yc,Yc,Yc⟩
 rintro s e W ⟨hsz,hs,xW,e0,e1,e7⟩
 have EW:=E.ext xW
 have h0r:0 < x.rows.length:=by
  obtain ⟨t,ht⟩:=Zcg.1 I.zero
  exact List.length_pos_of_mem ht
 (rw [WR];simp +decide only [go_sem,WS,hsz,e0,e1])
 refine Zaa Kok (Nat.le_trans hlow xW.1) (Zkl x I n hn W (EW.ev h0r)) fun r W1 x1 hr=> ?_
 subst hr
 have E1:=EW.ext x1
 have xW1:=xW.trans x1
 have hfew:=I.few
 obtain ⟨cs,g1,g2,g3⟩:=E1.row
 have gq:=E1.ed
 obtain ⟨i,hi⟩:∃ i,i=(less n x.rows).length:=⟨_,rfl⟩
 have c0:(0:Int)≤(i:Int):=Ya
 rw [← hi]
 simp +decide only [go_sem,WS,hsz]
 apply Za1 (α:=Nat) (fun b' e W2=>e.size=80∧e.get 0= .pointer (some ⟨q,0,none⟩)∧e.get 1= .int .i64 (n:Int)∧EP low W2 q b' ⟨less n x.rows++(n,s)::more n x.rows,x.nx⟩∧(b'=b∨h.size≤b')∧Frm F h W2∧(has n x.rows=false→¬ 200 < x.rows.length))
 ·intro cont
  rcases ZbU (n:=n) I.rise with ⟨k1,k2⟩ | ⟨k1,t,k2⟩
  ·have kl:=congrArg List.length k2
   rw [List.length_append,← hi] at kl
   by_cases c200:(200:Int) < ((x.rows.length:Nat):Int)
   ·have hz:setS x n l=none:=by
     simp only [setS,hs]
     rw [if_pos ⟨k1,by omega⟩]
    simp +decide only [go_sem,WR,WS,hsz,k1,e0,gq,c200]
    rw [hz]
    exact ⟨b,rfl,E1,.inl rfl,Frm.ext xW1⟩
   ·(rw [WR];simp +decide only [go_sem,WS,hsz,k1])
    (rw [WR];simp +decide only [go_sem,WS,hsz,e0,gq,c200])
    obtain ⟨w2,f2,x2,hs2,z2⟩:=lay1 W1 (.cells [.int .i64 (n:Int),.string s] 2)
    (rw [WR];simp +decide only [go_sem,WS,hsz,e0,e1,e7,gq,f2])
    have z0:=E1.hb
    have z1:=E1.hq
    refine ZaW rfl (Zjr (h:=w2) (vc:=1) (i:=i) (p:=(n,s)) (Nat.le_trans hlow (xW1.trans x2).1) E1.lb Ya (show W1.size < w2.size by omega) Ya ((x2.2 b z0).trans g1) g2 Ya h0r Ya z2) fun r w3 hr=> ?_
    obtain ⟨rfl,hs3,k3,g4⟩:=hr
    have gq3:w3.get q=_:=(k3 q Ya E1.ne).trans ((x2.2 q z1).trans gq)
    obtain ⟨w4,f4⟩:∃ w4,w3.set q (.cells [.slice (some ⟨w2.size+1,0,none⟩) (x.rows.length+1) big,.int .i64 (x.nx:Int)] 2)=w4:=⟨_,rfl⟩
    have lq:=E1.lq
    simp +decide only [go_sem,WS,hsz,e0,gq3,lq,f4]
    refine cont (w2.size+1) _ _ ⟨Yb,Yf,Yk,⟨lq,by rw [← f4];simp only [Heap.size_set];omega,by have:=(xW1.trans x2).1;omega,by rw [← f4];simp only [Heap.size_set];omega,by omega,?_,?_⟩,.inr (by have:=xW1.1;omega),?_,fun _=>by omega⟩
    ·rw [← f4,Heap.Zae,if_pos rfl]
     have:(less n x.rows++(n,s)::more n x.rows).length=x.rows.length+1:=by simp;omega
     rw [this]
    ·refine ⟨_,by rw [← f4,Heap.Zae,if_neg Ya];exact g4,?_,?_⟩
     ·rw [g3,congrArg erv k2,hi,Zm7 _ _ (n,s),ZaT]
      exact Nat.le_refl _
     ·rw [g3,congrArg erv k2,hi,Zm7 _ _ (n,s)]
      exact List.take_of_length_le (by rw [ZaT];exact Nat.le_refl _)
    ·rw [hF]
     refine ((Frm.ext (xW1.trans x2)).trans (b:=w2) ?_).trans (b:=w3) ?_
     ·exact ⟨by omega,fun c hc hf=>k3 c hc fun e=>hf (.inr e)⟩
     ·rw [← f4]
      exact Frm.set (.inl rfl) _
  ·have kl:=congrArg List.length k2
   rw [List.length_append,← hi] at kl
   have c1:(i:Int) < ((x.rows.length:Nat):Int):=by simp at kl;omega
   (rw [WR];simp +decide only [go_sem,WS,hsz,k1])
   have lb:=E1.lb
   have hle:i*2+1+1≤cs.length:=Ya
   obtain ⟨w4,f4⟩:∃ w4,W1.set b (.cells (cs.take (i*2+1)++[.string s]++cs.drop (i*2+1+1)) 2)=w4:=⟨_,rfl⟩
   (rw [WR];simp +decide only [go_sem,WS,hsz,e0,e7,gq,c0,c1,Int.toNat_natCast,g1,lb,hle,f4])
   have rl:(less n x.rows++(n,s)::more n x.rows).length=x.rows.length:=by simp at kl ⊢;omega
   refine cont b _ _ ⟨Yb,Yf,Yk,⟨E1.lq,by rw [← f4];exact E1.hq,lb,by rw [← f4];exact E1.hb,E1.ne,?_,?_⟩,.inl rfl,?_,fun hh=>by rw [k1] at hh;cases hh⟩
   ·rw [← f4,Heap.Zae,if_neg E1.ne,rl]
    exact gq
   ·have hcs:cs=erv x.rows++cs.drop (x.rows.length*2):=by rw [← g3,List.take_append_drop]
    refine ⟨_,by rw [← f4,Heap.Zae,if_pos rfl],?_,?_⟩
    ·rw [rl]
     simp
     omega
    ·rw [hi,hcs,congrArg erv k2,ZqX]
     exact List.take_left' (by rw [ZaT])
   ·rw [← f4,hF]
    exact (Frm.ext xW1).trans (Frm.set (.inr rfl) _)
 rintro b' e W2 ⟨hsz,e0,e1,E2,hb',fr,hfw⟩
 have hW2:low≤W2.size:=Nat.le_trans hlow fr.1
 (rw [WR];simp +decide only [go_sem,WS,hsz,e0,e1])
 refine Zaa Kok hW2 (ZnX n W2 hn) fun r w5 x5 hr=> ?_
 obtain ⟨hw,rfl⟩:=hr
 subst hw
 have hst:=ZlF n
 have i1:IntKind.i64.wrap ((n:Int)+((Zfb n:Nat):Int))=((n+Zfb n:Nat):Int):=Yd
 have gq2:=E2.ed
 have lq:=E2.lq
 have em:min ((n+Zfb n:Nat):Int) 9999999=((min (n+Zfb n) 9999999:Nat):Int):=Ya
 simp +decide only [go_sem,WS,hsz,e0,e1,i1,gq2,lq,em]
 (rw [WR];simp +decide only [go_sem,WS,hsz])
 have hz:setS x n l=some ⟨less n x.rows++(n,s)::more n x.rows,min (n+Zfb n) 9999999⟩:=by
  simp only [setS,hs]
  rw [if_neg fun hh=>hfw hh.1 hh.2]
 rw [hz]
 obtain ⟨cs2,r1,r2,r3⟩:=E2.row
 refine ⟨b',rfl,⟨lq,E2.hq,E2.lb,E2.hb,E2.ne,?_,cs2,?_,r2,r3⟩,hb',?_⟩
 ·rw [Heap.Zae,if_pos rfl]
  rfl
 ·rw [Heap.Zae,if_neg (fun e=>E2.ne e.symm)]
  exact r1
 ·rw [hF] at fr
  exact fr.trans (Frm.set (.inl rfl) _)
end Go.Proofs.YtachkofbmodnnaaGreat.D10
namespace Go.Proofs.YtachkofbmodnnaaGreat.D11
open Go Go.Im Go.Im.Limbs Go.Im.Lexing Go.Im.Heads Go.Im.Editing Go.Im.Defn Go.Proofs Go.RowKit Hd H2 H4 H5 H8 N23 D4 E2 E5 E7 D5 D8 D9 D10
set_option maxRecDepth 100000
def CmdQ (low:Nat) (h:Heap) (q b:Nat) (x:EdT) (m:Option (List ByteArray × EdT)) (r:Value) (w:Heap):Prop :=
 ∃ b' v,r= .tuple #[v,.bool m.isSome]∧EP low w q b' ((m.map (·.2)).getD x)∧(b'=b∨h.size≤b')∧Frm (fun i=>i=q∨i=b) h w∧∀ out y,m=some (out,y)→∃ a c,v= .slice a out.length c∧SlF w (fun i=>i < h.size) 1 a out.length c (sv out)
theorem CmdQ.no {low:Nat} {h:Heap} {q b:Nat} {x:EdT} (E:EP low h q b x) {w:Heap} (xw:Ext h w) (v:Value) {m:Option (List ByteArray × EdT)} (hm:m=none):CmdQ low h q b x m (.tuple #[v,.bool false]) w:=by
 subst hm
 exact ⟨b,v,rfl,E.ext xw,.inl rfl,Frm.ext xw,fun _ _ e=>by cases e⟩
theorem ZcN {w:Heap} {F:Nat→Prop}:SlF w F 1 none 0 0 (sv []):=⟨Sl.nil w 1,fun h=>by omega⟩
theorem Zkt {c:Int} (h:isD c=true):c≠9109∧c≠8710:=by
 simp only [isD,Bool.and_eq_true,decide_eq_true_eq] at h
 omega
set_option maxHeartbeats 1000000 in
theorem ZiQ {low:Nat} {h:Heap} (hlow:low≤h.size) {q b:Nat} {x:EdT} (E:EP low h q b x) (I:Inv x) {l tx:List Int} {lv tv:Value} (t:Ln h lv l) (t2:Ln h tv tx) (htr:trimS tx=tx) (hm:l.length≤100000) (hm2:tx.length≤100000) :
  Does K low 48 #[.pointer (some ⟨q,0,none⟩),lv,tv] h (CmdQ low h q b x (cmdS x l tx)):=by
 obtain ⟨la,lc,rfl⟩:=t.open
 obtain ⟨ta,tc,rfl⟩:=t2.open
 have h0r:0 < x.rows.length:=by
  obtain ⟨t,ht⟩:=Zcg.1 I.zero
  exact List.length_pos_of_mem ht
 have V:=E.ev h0r
 refine Does.intro rfl Ye Tryz.func48 rfl ?_
 by_cases hl0:((l.length:Nat):Int)=0
 ·have hl:l=[]:=List.eq_nil_of_length_eq_zero Ya
  have:cmdS x l tx=none:=by
   rw [hl]
   rfl
  simp +decide only [go_sem,WR,WS,eq_true hl0]
  exact CmdQ.no E (Ext.refl h) _ this
 have hpos:0 < l.length:=Ya
 obtain ⟨c0,hc0⟩:∃ c,l[0]? =some c:=⟨_,List.getElem?_eq_getElem hpos⟩
 obtain ⟨c9,hc9⟩:∃ c,l[l.length - 1]? =some c:=⟨_,List.getElem?_eq_getElem Ya⟩
 have hhd:l.head? =some c0:=by rw [← hc0];cases l<;>rfl
 have hlast:l.getLast? =some c9:=by rw [List.getLast?_eq_getElem?];exact hc9
 obtain ⟨lb,lo,cs,hq,q2,q3,q4⟩:=t.one hc0
 obtain ⟨lb',lo',cs',hq',_,q3',q5⟩:=t.one hc9
 cases hq
 cases hq'
 rw [q3] at q3'
 cases q3'
 have i1:IntKind.i64.wrap (((l.length:Nat):Int) - 1)=((l.length - 1:Nat):Int):=Yd
 have c00:(0:Int) < ((l.length:Nat):Int):=Ya
 have c91:(0:Int)≤((l.length - 1:Nat):Int):=Ya
 have c92:((l.length - 1:Nat):Int) < ((l.length:Nat):Int):=Ya
 simp +decide only [go_sem,WS]
 (rw [WR];simp +decide only [go_sem,WS])
 apply Za1 (α:=Unit) (fun _ e W=>e.size=158∧h=W∧e.get 0= .pointer (some ⟨q,0,none⟩)∧e.get 1= .slice (some ⟨lb,lo,none⟩) l.length big∧e.get 2= .slice ta tx.length tc∧(tx≠[]∨(c0≠9109∧c9≠9109∧c0≠8710)))
 ·intro cont
  rw [Nat.add_zero] at q4
  by_cases ht:((tx.length:Nat):Int)=0
  case neg =>
   have htx:tx≠[]:=fun e=>ht (by rw [e];rfl)
   (rw [WR];simp +decide only [go_sem,WS,hl0])
   by_cases h1:c0=9109<;>by_cases h2:c9=9109<;>by_cases h3:c0=8710<;>by_cases h4:((l.length:Nat):Int)=1 <;>
    ((rw [WR];simp +decide only [go_sem,WS,c00,Int.toNat_natCast,q3,q4,h1,h4,ht])
     (rw [WR];simp +decide only [go_sem,WS,c00,Int.toNat_natCast,q3,q4,h1,ht])
     (rw [WR];simp +decide only [go_sem,WS,c91,c92,i1,Int.toNat_natCast,q3,q5,h2,ht])
     (rw [WR];simp +decide only [go_sem,WS,c00,Int.toNat_natCast,q3,q4,h3,ht])
     exact cont () _ _ ⟨Yc,rfl,Yc,Yc,Yc,.inl htx⟩)
  have htx:tx=[]:=List.eq_nil_of_length_eq_zero Ya
  have lne:l≠[]:=fun e=>by rw [e] at hpos;simp at hpos
  have nd:c0=9109∨c9=9109∨c0=8710→Za4 l=none:=by
   intro hc
   cases hrd:Za4 l with
   | none=>rfl
   | some n =>
     exfalso
     obtain ⟨d,hd1,hd2⟩:=ZkO hrd
     obtain ⟨f,hf1,hf2⟩:=Zl5 hrd
     rw [hhd] at hd1
     rw [hlast] at hf1
     cases hd1
     cases hf1
     have g1:=Zkt hd2
     have g2:=Zkt hf2
     omega
  have hor:¬ (l=[]∨tx≠[]):=by simp [lne,htx]
  have cs0:Za4 l=none→cmdS x l tx=if l.head? =some 9109 then (if l.length=1 then some (Zcc x.rows 0 9999999,x) else (Za4 (l.drop 1)).map fun (n:Nat)=>(Zcc x.rows (n:Int) 9999999,x))
    else if l.getLast? =some 9109 then (Za4 l.dropLast).map fun (n:Nat)=>(Zcc x.rows (n:Int) (n:Int),{ x with nx:=n })
    else if l.head? =some 8710 then (Za4 (l.drop 1)).bind fun n=>(Zgo x n).map fun y=>([],y)
    else none:=fun hr=>by simp only [cmdS,hr];rw [if_neg hor]
  rw [hhd,hlast] at cs0
  (rw [WR];simp +decide only [go_sem,WS,hl0])
  by_cases h1:c0=9109
  ·have hcm:=cs0 (nd (.inl h1))
   rw [if_pos (by rw [h1])] at hcm
   by_cases h4:((l.length:Nat):Int)=1
   ·rw [if_pos Ya] at hcm
    (rw [WR];simp +decide only [go_sem,WS,c00,Int.toNat_natCast,q3,q4,h1,h4,ht])
    (rw [WR];simp +decide only [go_sem,WS])
    refine Zaa Kok hlow (Zfe x I 0 9999999 h V) fun r w1 x1 hr=> ?_
    obtain ⟨a',c',rfl⟩:=hr.shape
    simp +decide only [go_sem,WS]
    rw [hcm]
    refine ⟨b,_,rfl,E.ext x1,.inl rfl,Frm.ext x1,fun out y hy=> ?_⟩
    cases hy
    exact ⟨_,_,rfl,Zja hr fun c hc=>by omega⟩
   ·rw [if_neg Ya] at hcm
    (rw [WR];simp +decide only [go_sem,WS,c00,Int.toNat_natCast,q3,q4,h1,h4,ht])
    (rw [WR];simp +decide only [go_sem,WS,c00,Int.toNat_natCast,q3,q4,h1,ht])
    obtain ⟨a1,c1,e1,t1⟩:=t.cut (lo:=some (.int .i64 1)) (hi:=none) (x:=1) (y:=l.length) YF rfl Ya (Nat.le_refl _)
    rw [List.take_of_length_le Yp] at t1
    have ll:(l.drop 1).length=l.length - 1:=Yp
    (rw [WR];simp +decide only [go_sem,WS,e1])
    rw [← ll] at t1 ⊢
    refine Zaa Kok hlow (Zdb (l.drop 1) h t1 Ya) fun r w1 x1 hr=> ?_
    obtain ⟨hw,z,rfl,hz,_,_⟩:=hr
    have hw:=hw.symm
    subst hw
    simp +decide only [go_sem,WS]
    (rw [WR];simp +decide only [go_sem,WS])
    refine Zaa Kok hlow (Zfe x I z 9999999 h V) fun r w1 x1 hr=> ?_
    obtain ⟨a',c',rfl⟩:=hr.shape
    simp +decide only [go_sem,WS]
    rw [hcm]
    cases hrd:Za4 (l.drop 1) with
    | none =>
      exact CmdQ.no E x1 _ rfl
    | some n =>
      have hz:=hz n hrd
      subst hz
      refine ⟨b,_,rfl,E.ext x1,.inl rfl,Frm.ext x1,fun out y hy=> ?_⟩
      cases hy
      exact ⟨_,_,rfl,Zja hr fun c hc=>by omega⟩
  (rw [WR];simp +decide only [go_sem,WS,c00,Int.toNat_natCast,q3,q4,h1,ht])
  (rw [WR];simp +decide only [go_sem,WS,c00,Int.toNat_natCast,q3,q4,h1,ht])
  have gq:=E.ed
  have lq:=E.lq
  by_cases h2:c9=9109
  ·have hcm:=cs0 (nd (.inr (.inl h2)))
   rw [if_neg (by simpa using h1),if_pos (by rw [h2])] at hcm
   (rw [WR];simp +decide only [go_sem,WS,c91,c92,i1,Int.toNat_natCast,q3,q5,h2,ht])
   obtain ⟨a1,c1,e1,t1⟩:=t.cut (lo:=none) (hi:=some (.int .i64 ((l.length - 1:Nat):Int))) (x:=0) (y:=l.length - 1) rfl YF Ya Ya
   rw [Nat.sub_zero] at e1 t1
   rw [List.drop_zero,← List.dropLast_eq_take] at t1
   have ll:l.dropLast.length=l.length - 1:=Yp
   (rw [WR];simp +decide only [go_sem,WS,i1,e1])
   rw [← ll] at t1 ⊢
   refine Zaa Kok hlow (Zdb l.dropLast h t1 Ya) fun r w1 x1 hr=> ?_
   obtain ⟨hw,z,rfl,hz,_,_⟩:=hr
   have hw:=hw.symm
   subst hw
   simp +decide only [go_sem,WS]
   cases hrd:Za4 l.dropLast with
   | none =>
     (rw [WR];simp +decide only [go_sem,WS,Option.isSome_none])
     (rw [WR];simp +decide only [go_sem,WS])
     refine Zaa Kok hlow (Zfe x I z z h V) fun r w1 x1 hr=> ?_
     obtain ⟨a',c',rfl⟩:=hr.shape
     simp +decide only [go_sem,WS]
     rw [hcm,hrd]
     exact CmdQ.no E x1 _ rfl
   | some n =>
     have hz:=hz n hrd
     subst hz
     obtain ⟨w2,f2⟩:∃ w2,h.set q (.cells [.slice (some ⟨b,0,none⟩) x.rows.length big,.int .i64 (n:Int)] 2)=w2:=⟨_,rfl⟩
     have E2:EP low w2 q b { x with nx:=n }:=⟨lq,by rw [← f2];exact E.hq,E.lb,by rw [← f2];exact E.hb,E.ne,by rw [← f2,Heap.Zae,if_pos rfl],by rw [← f2,Heap.Zae,if_neg (fun e=>E.ne e.symm)];exact E.row⟩
     have s2:w2.size=h.size:=by rw [← f2];rfl
     (rw [WR];simp +decide only [go_sem,WS,Option.isSome_some])
     (rw [WR];simp +decide only [go_sem,WS,gq,lq,f2])
     (rw [WR];simp +decide only [go_sem,WS])
     refine Zaa Kok Ya (Zfe { x with nx:=n } (I.at (Zdy hrd)) n n w2 (E2.ev h0r)) fun r w1 x1 hr=> ?_
     obtain ⟨a',c',rfl⟩:=hr.shape
     simp +decide only [go_sem,WS]
     rw [hcm,hrd]
     refine ⟨b,_,rfl,E2.ext x1,.inl rfl,Frm.trans (b:=w2) (by rw [← f2];exact Frm.set (.inl rfl) _) (Frm.ext x1),fun out y hy=> ?_⟩
     cases hy
     exact ⟨_,_,rfl,Zja hr fun c hc=>by omega⟩
  by_cases h3:c0=8710
  ·have hcm:=cs0 (nd (.inr (.inr h3)))
   rw [if_neg (by simpa using h1),if_neg (by simpa using h2),if_pos (by rw [h3])] at hcm
   (rw [WR];simp +decide only [go_sem,WS,c91,c92,i1,Int.toNat_natCast,q3,q5,h2,ht])
   (rw [WR];simp +decide only [go_sem,WS,c00,Int.toNat_natCast,q3,q4,h3,ht])
   obtain ⟨a1,c1,e1,t1⟩:=t.cut (lo:=some (.int .i64 1)) (hi:=none) (x:=1) (y:=l.length) YF rfl Ya (Nat.le_refl _)
   rw [List.take_of_length_le Yp] at t1
   have ll:(l.drop 1).length=l.length - 1:=Yp
   (rw [WR];simp +decide only [go_sem,WS,e1])
   rw [← ll] at t1 ⊢
   refine Zaa Kok hlow (Zdb (l.drop 1) h t1 Ya) fun r w1 x1 hr=> ?_
   obtain ⟨hw,z,rfl,hz,z0,z9⟩:=hr
   have hw:=hw.symm
   subst hw
   obtain ⟨m,rfl⟩:=Int.eq_ofNat_of_zero_le z0
   simp +decide only [go_sem,WS]
   (rw [WR];simp +decide only [go_sem,WS])
   refine Zaa Kok hlow (Zkl x I m Ya h V) fun r w1 x1 hr=> ?_
   subst hr
   simp +decide only [go_sem,WS]
   cases hrd:Za4 (l.drop 1) with
   | none =>
     simp +decide only [go_sem,WR,WS,Option.isSome_none]
     rw [hcm,hrd]
     exact CmdQ.no E x1 _ rfl
   | some n =>
     have hz:m=n:=by have:=hz n hrd;omega
     subst hz
     rw [hrd,Option.bind_some] at hcm
     have hfew:=I.few
     rcases ZbU (n:=m) I.rise with ⟨k1,k2⟩ | ⟨k1,t,k2⟩
     ·have:Zgo x m=none:=by rw [Zgo,if_pos (.inr k1)]
      rw [this] at hcm
      simp +decide only [go_sem,WR,WS,Option.isSome_some,k1]
      rw [hcm]
      exact CmdQ.no E x1 _ rfl
     by_cases h0:(m:Int)=0
     ·have:Zgo x m=none:=by rw [Zgo,if_pos (.inl Ya)]
      rw [this] at hcm
      simp +decide only [go_sem,WR,WS,Option.isSome_some,k1,eq_true h0]
      rw [hcm]
      exact CmdQ.no E x1 _ rfl
     have hgo:Zgo x m=some ⟨less m x.rows++more m x.rows,m⟩:=by rw [Zgo,if_neg (by rw [k1];simp;omega)]
     rw [hgo] at hcm
     have kl:=congrArg List.length k2
     rw [List.length_append,List.length_cons] at kl
     obtain ⟨i,hi⟩:∃ i,i=(less m x.rows).length:=⟨_,rfl⟩
     rw [← hi] at kl ⊢
     have i2:IntKind.i64.wrap ((i:Int)+1)=((i+1:Nat):Int):=Yd
     have E1:=E.ext x1
     obtain ⟨cs1,g1,g2,g3⟩:=E1.row
     have gq1:=E1.ed
     (rw [WR];simp +decide only [go_sem,WS,Option.isSome_some,k1,h0])
     (rw [WR];simp +decide only [go_sem,WS,gq1,i2])
     refine ZaW rfl (ZjC (h:=w1) (n:=x.rows.length) E.lb g1 g2 Ya Ya) fun r w3 hr=> ?_
     obtain ⟨rfl,hs3,k3,cs2,g4,g5,g6⟩:=hr
     have gq3:w3.get q=_:=(k3 q E.ne).trans gq1
     obtain ⟨w4,f4⟩:∃ w4,w3.set q (.cells [.slice (some ⟨b,0,none⟩) (x.rows.length - 1) big,.int .i64 (x.nx:Int)] 2)=w4:=⟨_,rfl⟩
     have gq4:w4.get q= .cells [.slice (some ⟨b,0,none⟩) (x.rows.length - 1) big,.int .i64 (x.nx:Int)] 2:=by rw [← f4,Heap.Zae,if_pos rfl]
     simp +decide only [go_sem,WS,gq3,lq,f4]
     obtain ⟨w5,f5⟩:∃ w5,w4.set q (.cells [.slice (some ⟨b,0,none⟩) (x.rows.length - 1) big,.int .i64 (m:Int)] 2)=w5:=⟨_,rfl⟩
     (rw [WR];simp +decide only [go_sem,WS,gq4,lq,f5])
     (rw [WR];simp +decide only [go_sem,WS])
     rw [hcm]
     have rl:(less m x.rows++more m x.rows).length=x.rows.length - 1:=by rw [List.length_append,← hi];omega
     refine ⟨b,_,rfl,⟨lq,by rw [← f5,← f4];simp only [Heap.size_set];rw [hs3];exact E1.hq,E.lb,by rw [← f5,← f4];simp only [Heap.size_set];rw [hs3];exact E1.hb,E.ne,?_,cs2,?_,?_,?_⟩,.inl rfl,?_,fun out y hy=> ?_⟩
     ·rw [← f5,Heap.Zae,if_pos rfl]
      simp only [Option.map_some,Option.getD_some,rl]
     ·rw [← f5,Heap.Zae,if_neg (fun e=>E.ne e.symm),← f4,Heap.Zae,if_neg (fun e=>E.ne e.symm)]
      exact g4
     ·simp only [Option.map_some,Option.getD_some,rl]
      omega
     ·simp only [Option.map_some,Option.getD_some,rl]
      have e1:cs1.take (i*2)=erv (less m x.rows):=by
       have:(cs1.take (x.rows.length*2)).take (i*2)=cs1.take (i*2):=by rw [List.take_take,Nat.min_eq_left Ya]
       rw [← this,g3,congrArg erv k2,Za7,hi]
       exact List.take_left' (ZaT _)
      have e2:(cs1.take (x.rows.length*2)).drop ((i+1)*2)=erv (more m x.rows):=by
       rw [g3,congrArg erv k2,Za7,Zfs]
       have:erv (less m x.rows)++Value.int .i64 (((m,t):Nat × ByteArray).1:Int)::Value.string ((m,t):Nat × ByteArray).2::erv (more m x.rows)=(erv (less m x.rows)++[Value.int .i64 (m:Int),Value.string t])++erv (more m x.rows):=by simp
       rw [this]
       exact List.drop_left' (by rw [List.length_append,ZaT,← hi];simp;omega)
      rw [g6,e1,e2,Za7]
     ·refine (Frm.ext x1).trans (b:=w1) (Frm.trans (b:=w3) ⟨by omega,fun c hc hf=>k3 c fun e=>hf (.inr e)⟩ ?_)
      rw [← f5,← f4]
      exact Frm.trans (Frm.set (.inl rfl) _) (Frm.set (.inl rfl) _)
     ·cases hy
      exact ⟨_,_,rfl,ZcN⟩
  (rw [WR];simp +decide only [go_sem,WS,c91,c92,i1,Int.toNat_natCast,q3,q5,h2,ht])
  (rw [WR];simp +decide only [go_sem,WS,c00,Int.toNat_natCast,q3,q4,h3,ht])
  exact cont () _ _ ⟨Yc,rfl,Yc,Yc,Yc,.inr ⟨h1,h2,h3⟩⟩
 rintro _ e W ⟨hsz,hw,e0,e1,e2,hc⟩
 subst hw
 have lne:l≠[]:=fun e=>by rw [e] at hpos;simp at hpos
 (rw [WR];simp +decide only [go_sem,WS,hsz,e1])
 refine Zaa Kok hlow (Zdb l h t Ya) fun r w1 x1 hr=> ?_
 obtain ⟨hw,z,rfl,hz,_,_⟩:=hr
 have hw:=hw.symm
 subst hw
 cases hrd:Za4 l with
 | none =>
   have hn:cmdS x l tx=none:=by
    simp only [cmdS,hrd,hhd,hlast]
    rcases hc with hc | ⟨h1,h2,h3⟩
    ·rw [if_pos (.inr hc)]
    ·by_cases hx:l=[]∨tx≠[]
     ·rw [if_pos hx]
     ·rw [if_neg hx,if_neg (by simpa using h1),if_neg (by simpa using h2),if_neg (by simpa using h3)]
   simp +decide only [go_sem,WR,WS,hsz,Option.isSome_none]
   exact CmdQ.no E (Ext.refl h) _ hn
 | some n =>
   have hz:=hz n hrd
   subst hz
   have hn:=Zdy hrd
   by_cases ht:tx=[]
   ·have hcm:cmdS x l tx=some ([],{ x with nx:=n }):=by
     simp only [cmdS,hrd]
     rw [if_pos ht]
    have gq:=E.ed
    have lq:=E.lq
    have tl:¬ (0:Int) < ((tx.length:Nat):Int):=by rw [ht];simp
    simp +decide only [go_sem,WR,WS,hsz,e0,e2,Option.isSome_some,tl,gq,lq]
    rw [hcm]
    refine ⟨b,_,rfl,⟨lq,E.hq,E.lb,E.hb,E.ne,by rw [Heap.Zae,if_pos rfl];rfl,?_⟩,.inl rfl,Frm.set (.inl rfl) _,fun out y hy=> ?_⟩
    ·rw [Heap.Zae,if_neg (fun e=>E.ne e.symm)]
     exact E.row
    ·cases hy
     exact ⟨_,_,rfl,ZcN⟩
   ·have hcm:cmdS x l tx=(setS x n tx).map fun y=>([],y):=by
     simp only [cmdS,hrd]
     rw [if_neg ht]
    have tl:(0:Int) < ((tx.length:Nat):Int):=by
     have:=List.length_pos_iff.2 ht
     omega
    simp +decide only [go_sem,WS,hsz,Option.isSome_some]
    (rw [WR];simp +decide only [go_sem,WS,hsz,Option.isSome_some])
    (rw [WR];simp +decide only [go_sem,WS,hsz,e2,tl])
    (rw [WR];simp +decide only [go_sem,WS,hsz,e0,e2])
    refine ZaW rfl (ZjU hlow E I hn t2 htr Ya) fun r w3 hr=> ?_
    obtain ⟨b',rfl,E3,hb',fr⟩:=hr
    simp +decide only [go_sem,WS,hsz]
    rw [hcm]
    refine ⟨b',.slice none 0 0,?_,?_,hb',fr,fun out y hy=> ?_⟩
    ·cases setS x n tx<;>rfl
    ·cases hs:setS x n tx with
     | none=>rw [hs] at E3;exact E3
     | some y=>rw [hs] at E3;exact E3
    ·obtain ⟨z,_,hz⟩:=Option.map_eq_some_iff.1 hy
     cases hz
     exact ⟨_,_,rfl,ZcN⟩
def DoQ (low:Nat) (h:Heap) (q b:Nat) (m:List ByteArray × Bool × Int × EdT) (r:Value) (w:Heap):Prop :=
 ∃ b' a c,r= .tuple #[.slice a m.1.length c,.bool m.2.1,.int .i64 m.2.2.1]∧EP low w q b' m.2.2.2∧(b'=b∨h.size≤b')∧Frm (fun i=>i=q∨i=b) h w∧SlF w (fun i=>i < h.size) 1 a m.1.length c (sv m.1)
theorem Znd {low:Nat} {h:Heap} (hlow:low≤h.size) {q b:Nat} {x:EdT} (E:EP low h q b x) (I:Inv x) {l:List Int} {lv:Value} (t:Ln h lv l) (hm:l.length≤10000) :
  Does K low 21 #[.pointer (some ⟨q,0,none⟩),lv] h (DoQ low h q b (doS x l)):=by
 obtain ⟨la,lc,rfl⟩:=t.open
 refine Does.intro rfl Ye Tryz.func21 rfl ?_
 simp +decide only [go_sem,WR,WS]
 refine Zaa Kok hlow (E3.ZoP l h t Ya) fun r w0 x0 hr=> ?_
 obtain ⟨hw,mv,rfl,tm⟩:=hr
 have hw:=hw.symm
 subst hw
 obtain ⟨m,hmm⟩:∃ m,m=(Zb5 l).1:=⟨_,rfl⟩
 obtain ⟨en,hen⟩:∃ en,en=(Zb5 l).2:=⟨_,rfl⟩
 have htr:=Zm9 l
 have hml:m.length≤10000:=by rw [hmm];exact Nat.le_trans (ZoQ l) hm
 have hdo:doS x l=if m=[] then ([],en,(0:Int),x) else if m.head? =some 91 then match (idx m 93).bind fun i=>cmdS x (trimS ((m.take i).drop 1)) (trimS (m.drop (i+1))) with
   | some (out,y)=>(out,en,(0:Int),y)
   | none=>([],false,(28:Int),x)
  else match setS x x.nx m with
   | some y=>([],en,(0:Int),y)
   | none=>([],false,(28:Int),x):=by rw [hmm,hen];rfl
 rw [← hmm] at tm htr
 rw [← hen]
 generalize hD:doS x l=D at hdo ⊢
 clear hD
 obtain ⟨ma,mc,rfl⟩:=tm.open
 have refuse:D=([],false,28,x)→∀ {w:Heap},Ext h w→DoQ low h q b D (.tuple #[.slice none 0 0,.bool false,.int .i64 28]) w:=by
  rintro rfl w xw
  exact ⟨b,none,0,rfl,E.ext xw,.inl rfl,Frm.ext xw,ZcN⟩
 simp +decide only [go_sem,WS]
 by_cases hl0:((m.length:Nat):Int)=0
 ·have hm0:m=[]:=List.eq_nil_of_length_eq_zero Ya
  rw [if_pos hm0] at hdo
  simp +decide only [go_sem,WR,WS,eq_true hl0]
  subst hdo
  exact ⟨b,none,0,rfl,E,.inl rfl,Frm.refl _ _,ZcN⟩
 have hpos:0 < m.length:=Ya
 rw [if_neg (fun e=>by rw [e] at hpos;simp at hpos)] at hdo
 obtain ⟨c0,hc0⟩:∃ c,m[0]? =some c:=⟨_,List.getElem?_eq_getElem hpos⟩
 have hhd:m.head? =some c0:=by rw [← hc0];cases m<;>rfl
 obtain ⟨lb,lo,cs,hq,q2,q3,q4⟩:=tm.one hc0
 cases hq
 rw [Nat.add_zero] at q4
 have c00:(0:Int) < ((m.length:Nat):Int):=Ya
 (rw [WR];simp +decide only [go_sem,WS,hl0])
 by_cases h1:c0=91
 ·rw [if_pos (by rw [hhd,h1])] at hdo
  (rw [WR];simp +decide only [go_sem,WS,c00,Int.toNat_natCast,q3,q4,h1])
  (rw [WR];simp +decide only [go_sem,WS])
  refine Zaa Kok hlow (ZqH m 93 h tm Ya) fun r w1 x1 hr=> ?_
  obtain ⟨hw,rfl⟩:=hr
  subst hw
  cases hix:idx m 93 with
  | none =>
    rw [hix] at hdo
    simp +decide only [go_sem,WS]
    (rw [WR];simp +decide only [go_sem,WS])
    simp +decide only [go_sem,WR,WS]
    exact refuse hdo (Ext.refl h)
  | some i =>
    have hi:=Zpq hix
    have hil:=(List.getElem?_eq_some_iff.1 hi).1
    have hi1:1≤i:=by
     rcases Nat.eq_zero_or_pos i with h0 | h0
     ·rw [h0,hc0,h1] at hi
      cases hi
     ·exact h0
    rw [hix,Option.bind_some] at hdo
    have ci:¬ (i:Int) < 0:=Ya
    have i1:IntKind.i64.wrap ((i:Int)+1)=((i+1:Nat):Int):=Yd
    obtain ⟨a1,c1,e1,t1⟩:=tm.cut (lo:=some (.int .i64 1)) (hi:=some (.int .i64 (i:Int))) (x:=1) (y:=i) YF YF hi1 Ya
    obtain ⟨a2,c2,e2,t2⟩:=tm.cut (lo:=some (.int .i64 ((i+1:Nat):Int))) (hi:=none) (x:=i+1) (y:=m.length) YS rfl Ya (Nat.le_refl _)
    rw [← List.drop_take] at t1
    rw [List.take_of_length_le Yp] at t2
    have l1:((m.take i).drop 1).length=i - 1:=Yl
    have l2:(m.drop (i+1)).length=m.length - (i+1):=Yp
    simp +decide only [go_sem,WS]
    (rw [WR];simp +decide only [go_sem,WS,ci])
    (rw [WR];simp +decide only [go_sem,WS,e1])
    rw [← l1] at t1 ⊢
    refine Zaa Kok hlow (ZaI _ h t1 Ya) fun r w2 x2 hr=> ?_
    obtain ⟨hw,t3⟩:=hr
    have hw:=hw.symm
    subst hw
    simp +decide only [go_sem,WS,i1,e2]
    rw [← l2] at t2 ⊢
    refine Zaa Kok hlow (ZaI _ h t2 Ya) fun r w3 x3 hr=> ?_
    obtain ⟨hw,t4⟩:=hr
    have hw:=hw.symm
    subst hw
    obtain ⟨b1,d1,rfl⟩:=t3.open
    obtain ⟨b2,d2,rfl⟩:=t4.open
    simp +decide only [go_sem,WS]
    have z1:=ZcD ((m.take i).drop 1)
    have z2:=ZcD (m.drop (i+1))
    refine ZaW rfl (ZiQ hlow E I t3 t4 (ZdS _) Ya Ya) fun r w4 hr=> ?_
    obtain ⟨b',v,rfl,E4,hb',fr,hv⟩:=hr
    simp +decide only [go_sem,WS]
    cases hcm:cmdS x (trimS ((m.take i).drop 1)) (trimS (m.drop (i+1))) with
    | none =>
      rw [hcm] at hdo E4
      subst hdo
      simp +decide only [go_sem,WR,WS,Option.isSome_none]
      exact ⟨b',none,0,rfl,E4,hb',fr,ZcN⟩
    | some z =>
      obtain ⟨out,y⟩:=z
      rw [hcm] at hdo E4
      obtain ⟨oa,oc,rfl,so⟩:=hv out y hcm
      subst hdo
      simp +decide only [go_sem,WR,WS,Option.isSome_some]
      exact ⟨b',oa,oc,rfl,E4,hb',fr,so⟩
 ·rw [if_neg (by rw [hhd];simpa using h1)] at hdo
  have gq:=E.ed
  (rw [WR];simp +decide only [go_sem,WS,c00,Int.toNat_natCast,q3,q4,h1])
  (rw [WR];simp +decide only [go_sem,WS,gq])
  refine ZaW rfl (ZjU hlow E I I.next tm htr Ya) fun r w3 hr=> ?_
  obtain ⟨b',rfl,E3,hb',fr⟩:=hr
  simp +decide only [go_sem,WS]
  cases hs:setS x x.nx m with
  | none =>
    rw [hs] at hdo E3
    subst hdo
    simp +decide only [go_sem,WR,WS,Option.isSome_none]
    exact ⟨b',none,0,rfl,E3,hb',fr,ZcN⟩
  | some y =>
    rw [hs] at hdo E3
    subst hdo
    simp +decide only [go_sem,WR,WS,Option.isSome_some]
    exact ⟨b',none,0,rfl,E3,hb',fr,ZcN⟩
end Go.Proofs.YtachkofbmodnnaaGreat.D11
namespace Go.Im.Editing
open Go Go.Im Go.Im.Lexing Go.Im.Heads Go.Im.Defn
end Go.Im.Editing
namespace Go.Proofs.YtachkofbmodnnaaGreat.D12
open Go Go.Im Go.Im.Limbs Go.Im.Lexing Go.Im.Heads Go.Im.Editing Go.Im.Defn Go.Proofs Go.RowKit Hd H2 H4 H5 H7 R9 D4 E2 E5 E7 D5 D8 D9
set_option maxRecDepth 100000
end Go.Proofs.YtachkofbmodnnaaGreat.D12
namespace Go.Proofs.YtachkofbmodnnaaGreat.D13
open Go Go.Im Go.Im.Limbs Go.Im.Lexing Go.Im.Heads Go.Im.Editing Go.Im.Defn Go.Proofs Go.RowKit Hd H2 H4 H5 H7 R9 D4 E2 E5 E7 D5 D8 D9 D12
set_option maxRecDepth 100000
end Go.Proofs.YtachkofbmodnnaaGreat.D13
namespace Go.Proofs.YtachkofbmodnnaaGreat.D14
open Go Go.Im Go.Im.Limbs Go.Im.Lexing Go.Im.Heads Go.Im.Editing Go.Im.Defn Go.Proofs Go.RowKit Hd H2 H4 H5 H7 R9 D4 E2 E5 E7 D5 D8 D9 D12 D13
set_option maxRecDepth 100000
end Go.Proofs.YtachkofbmodnnaaGreat.D14
namespace Go.Proofs.YtachkofbmodnnaaGreat.D15
open Go Go.Im Go.Im.Limbs Go.Im.Lexing Go.Im.Heads Go.Im.Editing Go.Im.Defn Go.Proofs Go.RowKit Hd H2 H4 H5 E2 E5 E7 D5 D8 D9 D12 D13 D14
set_option maxRecDepth 100000
end Go.Proofs.YtachkofbmodnnaaGreat.D15
namespace Go.Im.Editing
open Go Go.Im Go.Im.Lexing Go.Im.Heads Go.Im.Defn
def ZcU (rows:List ByteArray):Rows:=rows.mapIdx fun i s=>(i*10000,s)
def Zd1 (rows:List ByteArray):EdT:=⟨ZcU rows,rows.length*10000⟩
theorem ZfT (rows:List ByteArray):(ZcU rows).length=rows.length:=by simp [ZcU]
theorem Zhe {rows:List ByteArray} {i:Nat} {s:ByteArray} (h:rows[i]? =some s):(ZcU rows)[i]? =some (i*10000,s):=by simp [ZcU,List.getElem?_mapIdx,h]
end Go.Im.Editing
namespace Go.Proofs.YtachkofbmodnnaaGreat.D17
open Go Go.Im Go.Im.Limbs Go.Im.Lexing Go.Im.Heads Go.Im.Editing Go.Im.Defn Go.Proofs Go.RowKit Hd H2 H3 H4 H5 D2 D4 D5 D8 D9 D12
set_option maxRecDepth 100000
theorem Zod (d:DefT) (h:Heap) {v:Value} (V:DV h v d) (G:Heads.Good d.hd) (hm:d.lines.length≤1000):Runs K 44 #[v] h fun r w=>∃ q b,r= .pointer (some ⟨q,0,none⟩)∧EP h.size w q b (Zd1 (Zby d)):=by
 have V0:=V
 obtain ⟨a0,c0,a1,c1,a2,c2,rfl,s1,s2,s3⟩:=V
 refine Runs.of Kok (Does.intro rfl Ye Tryz.func44 rfl ?_)
 obtain ⟨w1,e1,x1,hs1,z1⟩:=lay1 h (.cells [.string d.hd.nm,.string d.hd.re,.string d.hd.le,.string d.hd.ri,.slice a0 d.hd.ls.length c0,.slice a1 d.lines.length c1,.slice a2 d.labels.length c2] 7)
 obtain ⟨w2,e2,x2,hs2,z2⟩:=lay1 w1 (.cells [.slice none 0 0,.int .i64 0] 2)
 have x02:=x1.trans x2
 have z12:w2.get h.size=_:=(x2.2 _ Ya).trans z1
 have rr:=Zem d w2 (V0.ext x02) G Ya
 simp only [dl,hl] at rr
 simp +decide only [go_sem,WR,WS,dl,hl,e1,e2,z12]
 refine Zaa Kok x02.1 rr fun r w3 x3 hr=> ?_
 obtain ⟨a,c,rfl,sr⟩:=hr
 obtain ⟨rows,hrows⟩:∃ rows,rows=Zby d:=⟨_,rfl⟩
 have hlr:=ZdW d
 rw [← hrows] at sr hlr ⊢
 obtain ⟨n,hn⟩:∃ n,n=rows.length:=⟨_,rfl⟩
 obtain ⟨qb,hqb⟩:∃ qb,qb=w1.size:=⟨_,rfl⟩
 have x03:=x02.trans x3
 have z3:w3.get qb= .cells [.slice none 0 0,.int .i64 0] 2:=by rw [hqb];exact (x3.2 _ Ya).trans z2
 have hq1:h.size≤qb:=by rw [hqb];exact x1.1
 have hq3:qb < w3.size:=by have:=x3.1;omega
 rw [← hn] at sr ⊢
 rw [← hqb]
 have tl:=ZfT rows
 rw [← hn] at tl
 simp +decide only [go_sem,WR,WS]
 refine Zah (α:=Nat × Value) (fun i e W=>i.1≤n∧e.size=40∧Ext h W∧Frm (fun k=>k=qb) w3 W∧W.get qb= .cells [i.2,.int .i64 0] 2∧Own h.size W 2 i.2 i.1 (erv ((ZcU rows).take i.1))∧(∀ k,k < w3.size→vblk i.2≠some k)∧e.get 3= .pointer (some ⟨qb,0,none⟩)∧e.get 9= .slice a n c∧e.get 10= .int .i64 ((n:Nat):Int)∧e.get 11= .int .i64 (i.1:Int)) (fun i=>n - i.1) (0,.slice none 0 0) ?_ ?_
 ·exact ⟨Nat.zero_le _,Yc,x03,Frm.refl _ _,z3,Own.nil _ _ _,fun k _=>by simp [vblk],Yc,Yc,Yc,by simp +decide only [go_sem];rfl⟩
 rintro ⟨i,u⟩ e W ⟨hi,hsz,xW,fr,gq,own,hvq,e3,e9,e10,e11⟩ next
 simp only at hi gq own hvq e11
 by_cases hil:(i:Int) < ((n:Nat):Int)
 ·have hp:rows[i]? =some rows[i]:=List.getElem?_eq_getElem Ya
  obtain ⟨p,hpd⟩:∃ p,p=rows[i]:=⟨_,rfl⟩
  rw [← hpd] at hp
  have sr':=sr
  rw [hn] at sr'
  obtain ⟨b,o,cs,rfl,q2,q3,q4⟩:=ZaN sr' (i:=i) Ya
  have hbq:b≠qb:=fun e=>by rw [e,z3] at q3;cases q3
  have q3':(W.get b).read= .cells cs 1:=by rw [fr.2 b q2 hbq];exact q3
  rw [← hpd] at q4
  have ci:(0:Int)≤(i:Int):=Ya
  have i1:IntKind.i64.wrap ((i:Int)+1)=((i+1:Nat):Int):=Yd
  have i2:IntKind.i64.wrap ((i:Int)*10000)=((i*10000:Nat):Int):=Yd
  obtain ⟨w5,f5,x5,hs5,z5⟩:=lay1 W (.cells [.int .i64 ((i*10000:Nat):Int),.string p] 2)
  obtain ⟨w6,f6,o6,hs6,k6⟩:=ZdC (low:=h.size) (h:=w5) (bytes:=24) (k:=1) (new:=[.int .i64 ((i*10000:Nat):Int),.string p]) (own.ext x5) (by have:=xW.1;omega) Ya Ya rfl Ya Ya
  have hWq:qb < W.size:=by have:=fr.1;omega
  have gq6:w6.get qb= .cells [u,.int .i64 0] 2:=by rw [k6 qb Ya (hvq qb hq3),x5.2 qb hWq];exact gq
  obtain ⟨w7,f7⟩:∃ w7,w6.set qb (.cells [.slice (some ⟨w5.size,0,none⟩) (i+1) big,.int .i64 0] 2)=w7:=⟨_,rfl⟩
  have et:erv ((ZcU rows).take (i+1))=erv ((ZcU rows).take i)++[.int .i64 ((i*10000:Nat):Int),.string p]:=by
   rw [List.take_add_one,Zhe hp,Za7]
   rfl
  simp +decide only [go_sem,WR,WS,hsz,e3,e9,e10,e11,gq,hil,ci,Int.toNat_natCast,q3',q4,i2,f5,z5,f6,gq6,hq1,f7,i1]
  rw [← et] at o6
  have hW3:=fr.1
  have hW0:=xW.1
  have k7:∀ k,k < w3.size→k≠qb→w7.get k=W.get k:=fun k hk hkq=>by rw [← f7,Heap.Zae,if_neg hkq,k6 k Ya (hvq k hk),x5.2 k Ya]
  have s7:w7.size=w6.size:=by rw [← f7];rfl
  refine next (i+1,.slice (some ⟨w5.size,0,none⟩) (i+1) big) _ _ ⟨by simp only;omega,Yb,⟨by omega,fun k hk=> ?_⟩,⟨by omega,fun k hk hkq=> ?_⟩,?_,?_,fun k hk=> ?_,Yq,Yr,YA,Yb⟩ Yj
  ·rw [k7 k (by have:=x03.1;omega) Ya]
   exact xW.2 k hk
  ·rw [k7 k hk hkq]
   exact fr.2 k hk hkq
  ·rw [← f7,Heap.Zae,if_pos rfl]
  ·rcases o6 with ⟨h1,_⟩ | ⟨b',hb',l1,l2,l3,l4⟩
   ·cases h1
   ·cases hb'
    exact .inr ⟨w5.size,rfl,l1,by omega,by rw [← f7,Heap.Zae,if_neg Ya];exact l3,l4⟩
  ·simp only [vblk,ne_eq,Option.some.injEq]
   omega
 ·have hin:i=n:=by omega
  subst hin
  have i3:IntKind.i64.wrap ((i:Int)*10000)=((i*10000:Nat):Int):=Yd
  rw [List.take_of_length_le Ya] at own
  rcases own with ⟨_,h1,_⟩ | ⟨b,rfl,h1,h2,h3,h4⟩
  ·omega
  obtain ⟨w7,f7⟩:∃ w7,W.set qb (.cells [.slice (some ⟨b,0,none⟩) i big,.int .i64 ((i*10000:Nat):Int)] 2)=w7:=⟨_,rfl⟩
  simp +decide only [go_sem,WR,WS,hsz,e3,e10,e11,gq,hil,i3,hq1,f7]
  have hbq:qb≠b:=fun e=>hvq qb hq3 (by simp [vblk,e])
  refine ⟨qb,b,rfl,⟨hq1,by rw [← f7];have:=fr.1;simp only [Heap.size_set];omega,h1,by rw [← f7];exact h2,hbq,?_,erv (ZcU rows),?_,?_,?_⟩⟩
  ·rw [← f7,Heap.Zae,if_pos rfl]
   simp only [Zd1,tl]
   rw [← hn]
  ·rw [← f7,Heap.Zae,if_neg (fun e=>hbq e.symm)]
   exact h3
  ·simp only [Zd1,tl]
   omega
  ·simp only [Zd1]
   exact List.take_of_length_le (by rw [ZaT];omega)
theorem Zl0 (d:DefT) (h:Heap) {v:Value} (V:DV h v d) (G:Heads.Good d.hd) (hm:d.lines.length≤1000):Runs K 45 #[v] h fun r w=>∃ q b,r= .pointer (some ⟨q,0,none⟩)∧EP h.size w q b (Zd1 (Zby d)):=by
 have V0:=V
 obtain ⟨a0,c0,a1,c1,a2,c2,rfl,s1,s2,s3⟩:=V
 refine Runs.of Kok (Does.intro rfl Ye Tryz.func45 rfl ?_)
 obtain ⟨w1,e1,x1,hs1,z1⟩:=lay1 h (.cells [.string d.hd.nm,.string d.hd.re,.string d.hd.le,.string d.hd.ri,.slice a0 d.hd.ls.length c0,.slice a1 d.lines.length c1,.slice a2 d.labels.length c2] 7)
 obtain ⟨w2,e2,x2,hs2,z2⟩:=lay1 w1 (.cells [.slice none 0 0,.int .i64 0] 2)
 have x02:=x1.trans x2
 have z12:w2.get h.size=_:=(x2.2 _ Ya).trans z1
 have rr:=ZgE d w2 (V0.ext x02) G Ya
 simp only [dl,hl] at rr
 simp +decide only [go_sem,WR,WS,dl,hl,e1,e2,z12]
 refine Zaa Kok x02.1 rr fun r w3 x3 hr=> ?_
 obtain ⟨a,c,rfl,sr⟩:=hr
 obtain ⟨rows,hrows⟩:∃ rows,rows=Zby d:=⟨_,rfl⟩
 have hlr:=ZdW d
 rw [← hrows] at sr hlr ⊢
 obtain ⟨n,hn⟩:∃ n,n=rows.length:=⟨_,rfl⟩
 obtain ⟨qb,hqb⟩:∃ qb,qb=w1.size:=⟨_,rfl⟩
 have x03:=x02.trans x3
 have z3:w3.get qb= .cells [.slice none 0 0,.int .i64 0] 2:=by rw [hqb];exact (x3.2 _ Ya).trans z2
 have hq1:h.size≤qb:=by rw [hqb];exact x1.1
 have hq3:qb < w3.size:=by have:=x3.1;omega
 rw [← hn] at sr ⊢
 rw [← hqb]
 have tl:=ZfT rows
 rw [← hn] at tl
 simp +decide only [go_sem,WR,WS]
 refine Zah (α:=Nat × Value) (fun i e W=>i.1≤n∧e.size=39∧Ext h W∧Frm (fun k=>k=qb) w3 W∧W.get qb= .cells [i.2,.int .i64 0] 2∧Own h.size W 2 i.2 i.1 (erv ((ZcU rows).take i.1))∧(∀ k,k < w3.size→vblk i.2≠some k)∧e.get 3= .pointer (some ⟨qb,0,none⟩)∧e.get 4= .slice a n c∧e.get 5= .int .i64 (i.1:Int)) (fun i=>n - i.1) (0,.slice none 0 0) ?_ ?_
 ·exact ⟨Nat.zero_le _,Yc,x03,Frm.refl _ _,z3,Own.nil _ _ _,fun k _=>by simp [vblk],Yc,Yc,by simp +decide only [go_sem];rfl⟩
 rintro ⟨i,u⟩ e W ⟨hi,hsz,xW,fr,gq,own,hvq,e3,e4,e5⟩ next
 simp only at hi gq own hvq e5
 by_cases hil:(i:Int) < ((n:Nat):Int)
 ·have hp:rows[i]? =some rows[i]:=List.getElem?_eq_getElem Ya
  obtain ⟨p,hpd⟩:∃ p,p=rows[i]:=⟨_,rfl⟩
  rw [← hpd] at hp
  have sr':=sr
  rw [hn] at sr'
  obtain ⟨b,o,cs,rfl,q2,q3,q4⟩:=ZaN sr' (i:=i) Ya
  have hbq:b≠qb:=fun e=>by rw [e,z3] at q3;cases q3
  have q3':(W.get b).read= .cells cs 1:=by rw [fr.2 b q2 hbq];exact q3
  rw [← hpd] at q4
  have ci:(0:Int)≤(i:Int):=Ya
  have i1:IntKind.i64.wrap ((i:Int)+1)=((i+1:Nat):Int):=Yd
  have i2:IntKind.i64.wrap (10000*(i:Int))=((i*10000:Nat):Int):=Yd
  obtain ⟨w5,f5,x5,hs5,z5⟩:=lay1 W (.cells [.int .i64 ((i*10000:Nat):Int),.string p] 2)
  obtain ⟨w6,f6,o6,hs6,k6⟩:=ZdC (low:=h.size) (h:=w5) (bytes:=24) (k:=1) (new:=[.int .i64 ((i*10000:Nat):Int),.string p]) (own.ext x5) (by have:=xW.1;omega) Ya Ya rfl Ya Ya
  have hWq:qb < W.size:=by have:=fr.1;omega
  have gq6:w6.get qb= .cells [u,.int .i64 0] 2:=by rw [k6 qb Ya (hvq qb hq3),x5.2 qb hWq];exact gq
  obtain ⟨w7,f7⟩:∃ w7,w6.set qb (.cells [.slice (some ⟨w5.size,0,none⟩) (i+1) big,.int .i64 0] 2)=w7:=⟨_,rfl⟩
  have et:erv ((ZcU rows).take (i+1))=erv ((ZcU rows).take i)++[.int .i64 ((i*10000:Nat):Int),.string p]:=by
   rw [List.take_add_one,Zhe hp,Za7]
   rfl
  simp +decide only [go_sem,WR,WS,hsz,e3,e4,e5,gq,hil,ci,Int.toNat_natCast,q3',q4,i2,f5,z5,f6,gq6,hq1,f7,i1]
  rw [← et] at o6
  have hW3:=fr.1
  have hW0:=xW.1
  have k7:∀ k,k < w3.size→k≠qb→w7.get k=W.get k:=fun k hk hkq=>by rw [← f7,Heap.Zae,if_neg hkq,k6 k Ya (hvq k hk),x5.2 k Ya]
  have s7:w7.size=w6.size:=by rw [← f7];rfl
  refine next (i+1,.slice (some ⟨w5.size,0,none⟩) (i+1) big) _ _ ⟨by simp only;omega,Yb,⟨by omega,fun k hk=> ?_⟩,⟨by omega,fun k hk hkq=> ?_⟩,?_,?_,fun k hk=> ?_,Yq,Yg,Yb⟩ Yj
  ·rw [k7 k (by have:=x03.1;omega) Ya]
   exact xW.2 k hk
  ·rw [k7 k hk hkq]
   exact fr.2 k hk hkq
  ·rw [← f7,Heap.Zae,if_pos rfl]
  ·rcases o6 with ⟨h1,_⟩ | ⟨b',hb',l1,l2,l3,l4⟩
   ·cases h1
   ·cases hb'
    exact .inr ⟨w5.size,rfl,l1,by omega,by rw [← f7,Heap.Zae,if_neg Ya];exact l3,l4⟩
  ·simp only [vblk,ne_eq,Option.some.injEq]
   omega
 ·have hin:i=n:=by omega
  subst hin
  have i3:IntKind.i64.wrap (10000*(i:Int))=((i*10000:Nat):Int):=Yd
  rw [List.take_of_length_le Ya] at own
  rcases own with ⟨_,h1,_⟩ | ⟨b,rfl,h1,h2,h3,h4⟩
  ·omega
  obtain ⟨w7,f7⟩:∃ w7,W.set qb (.cells [.slice (some ⟨b,0,none⟩) i big,.int .i64 ((i*10000:Nat):Int)] 2)=w7:=⟨_,rfl⟩
  simp +decide only [go_sem,WR,WS,hsz,e3,e4,e5,gq,hil,i3,hq1,f7]
  have hbq:qb≠b:=fun e=>hvq qb hq3 (by simp [vblk,e])
  refine ⟨qb,b,rfl,⟨hq1,by rw [← f7];have:=fr.1;simp only [Heap.size_set];omega,h1,by rw [← f7];exact h2,hbq,?_,erv (ZcU rows),?_,?_,?_⟩⟩
  ·rw [← f7,Heap.Zae,if_pos rfl]
   simp only [Zd1,tl]
   rw [← hn]
  ·rw [← f7,Heap.Zae,if_neg (fun e=>hbq e.symm)]
   exact h3
  ·simp only [Zd1,tl]
   omega
  ·simp only [Zd1]
   exact List.take_of_length_le (by rw [ZaT];omega)
end Go.Proofs.YtachkofbmodnnaaGreat.D17
namespace Go.Im.Editing
open Go Go.Im Go.Im.Lexing Go.Im.Heads Go.Im.Defn
def sumS (l:List ByteArray):Nat:=(l.map fun r=>min r.size 2000).sum
theorem ZlB {l:List ByteArray} {i:Nat} {r:ByteArray} (h:l[i]? =some r):sumS (l.take (i+1))=sumS (l.take i)+min r.size 2000:=by
 simp [sumS,List.take_add_one,h]
theorem ZlC:∀ l:List ByteArray,sumS l≤2000*l.length
 | []=>by simp [sumS]
 | r::l=>by
   have:=ZlC l
   simp only [sumS,List.map_cons,List.sum_cons,List.length_cons] at this ⊢
   omega
end Go.Im.Editing
namespace Go.Proofs.YtachkofbmodnnaaGreat.D18
open Go Go.Im Go.Im.Limbs Go.Im.Lexing Go.Im.Heads Go.Im.Editing Go.Im.Defn Go.Proofs Go.RowKit Hd H2 H3 H4 H5 D2 D3 D4 D5 D8 D9 D17
set_option maxRecDepth 100000
set_option maxHeartbeats 1000000 in
theorem Znx (rows:List ByteArray) (h:Heap) {a:Option Addr} {c:Nat} (s:Sl h 1 a rows.length c (sv rows)) (hn:rows.length≤9223372036854775807) (hz:∀ r ∈ rows,r.size≤9223372036854775807) :
  Runs K 20 #[.slice a rows.length c] h fun r w=>r= .tuple #[.pointer none,.pointer none]∨∃ q b q' b',r= .tuple #[.pointer (some ⟨q,0,none⟩),.pointer (some ⟨q',0,none⟩)]∧EP h.size w q b (Zd1 (Zby (ZaM rows).1))∧EP h.size w q' b' (Zd1 (Zby (ZaM rows).1)) ∧
   q≠q'∧q≠b'∧b≠q'∧b≠b'∧rows.length≤40∧(ZaM rows).2 < 0:=by
 refine Runs.of Kok (Does.intro rfl Ye Tryz.func20 rfl ?_)
 apply Za1 (α:=Unit) (fun _ e w=>e.size=57∧h=w∧e.get 0= .slice a rows.length c∧∃ t:Nat,e.get 4= .int .i64 (t:Int))
 ·intro cont
  simp +decide only [go_sem,WR,WS]
  refine Zah (α:=Nat) (fun i e w=>i≤rows.length∧i≤40∧e.size=57∧h=w∧e.get 0= .slice a rows.length c∧e.get 4= .int .i64 ((sumS (rows.take i):Nat):Int)∧e.get 5= .int .i64 (i:Int)) (fun i=>rows.length - i) 0 ?_ ?_
  ·exact ⟨Nat.zero_le _,by omega,Yc,rfl,Yc,by simp +decide only [go_sem];rfl,by simp +decide only [go_sem];rfl⟩
  rintro i e w ⟨hi,hi4,hsz,hw,e0,e4,e5⟩ next
  subst hw
  by_cases hil:(i:Int) < ((rows.length:Nat):Int)
  ·by_cases h40:(i:Int) < 40
   ·obtain ⟨b,o,cs,rfl,q2,q3,q4⟩:=ZaN s (i:=i) Ya
    have hy:rows[i]? =some rows[i]:=List.getElem?_eq_getElem Ya
    have c0:(0:Int)≤(i:Int):=Ya
    have hs:=ZlB hy
    have hle:=ZlC (rows.take i)
    rw [List.length_take] at hle
    have i1:IntKind.i64.wrap ((i:Int)+1)=((i+1:Nat):Int):=Yd
    have em:min ((rows[i].size:Nat):Int) 2000=((min rows[i].size 2000:Nat):Int):=Ya
    have i2:IntKind.i64.wrap (((sumS (rows.take i):Nat):Int)+((min rows[i].size 2000:Nat):Int))=((sumS (rows.take (i+1)):Nat):Int):=by rw [hs,wrap_i64 Ya Ya];omega
    simp +decide only [go_sem,WR,WS,hsz,e0,e4,e5,hil,h40,c0,Int.toNat_natCast,q3,q4,em,i2,i1]
    exact next (i+1) _ _ ⟨by omega,by omega,Yb,rfl,Yf,Yb,Yb⟩ Ya
   ·simp +decide only [go_sem,WS]
    (rw [WR];simp +decide only [go_sem,WS,hsz,e0,e5,hil,h40])
    exact cont () _ _ ⟨Yb,rfl,Yf,sumS (rows.take i),Yg⟩
  ·simp +decide only [go_sem,WS]
   (rw [WR];simp +decide only [go_sem,WS,hsz,e0,e5,hil])
   exact cont () _ _ ⟨Yb,rfl,Yf,sumS (rows.take i),Yg⟩
 rintro _ e w ⟨hsz,hw,e0,t,e4⟩
 subst hw
 (rw [WR];simp +decide only [go_sem,WS,hsz,e0])
 refine Zaa Kok (Nat.le_refl _) (Zhj rows h s hn hz) fun r w1 x1 hr=> ?_
 obtain ⟨v,rfl,D⟩:=hr
 have G:=Zea rows
 have hfew:=(Zfk rows).1
 obtain ⟨bad,hbad⟩:∃ bad,bad=(ZaM rows).2:=⟨_,rfl⟩
 obtain ⟨d,hd⟩:∃ d,d=(ZaM rows).1:=⟨_,rfl⟩
 rw [← hbad]
 rw [← hd] at D G hfew ⊢
 have D0:=D
 obtain ⟨a0,c0,a1,c1,a2,c2,rfl,s1,s2,s3⟩:=D
 obtain ⟨w2,e2,x2,hs2,z2⟩:=lay1 w1 (.cells [.string ByteArray.empty,.string ByteArray.empty,.string ByteArray.empty,.string ByteArray.empty,.slice none 0 0,.slice none 0 0,.slice none 0 0] 7)
 obtain ⟨w3,e3,x3,hs3,z3,k3⟩:=put1 x2 (Nat.le_refl _) (.cells (dl d.hd (.slice a0 d.hd.ls.length c0) (.slice a1 d.lines.length c1) (.slice a2 d.labels.length c2)) 7)
 have x03:=x1.trans x3
 simp only [dl,hl] at e3 z3
 have j1:h.size≤w1.size:=x1.1
 simp +decide only [go_sem,WS,hsz,dl,hl,e2,z2,j1,e3]
 (rw [WR];simp +decide only [go_sem,WS,hsz,e0])
 refine Zaa Kok x03.1 (Zh2 rows w3 (s.ext x03) hn hz) fun r w4 x4 hr=> ?_
 obtain ⟨v,rfl,D⟩:=hr
 rw [← hd] at D
 rw [← hbad]
 have D1:=D
 obtain ⟨a3,c3,a4,c4,a5,c5,rfl,s4,s5,s6⟩:=D
 obtain ⟨w5,e5,x5,hs5,z5⟩:=lay1 w4 (.cells [.string ByteArray.empty,.string ByteArray.empty,.string ByteArray.empty,.string ByteArray.empty,.slice none 0 0,.slice none 0 0,.slice none 0 0] 7)
 obtain ⟨w6,e6,x6,hs6,z6,k6⟩:=put1 x5 (Nat.le_refl _) (.cells (dl d.hd (.slice a3 d.hd.ls.length c3) (.slice a4 d.lines.length c4) (.slice a5 d.labels.length c5)) 7)
 have x06:=x03.trans (x4.trans x6)
 simp only [dl,hl] at e6 z6
 have j4:h.size≤w4.size:=(x03.trans x4).1
 simp +decide only [go_sem,WS,hsz,dl,hl,e5,z5,j4,e6]
 have z63:w6.get w1.size= .cells [.string d.hd.nm,.string d.hd.re,.string d.hd.le,.string d.hd.ri,.slice a0 d.hd.ls.length c0,.slice a1 d.lines.length c1,.slice a2 d.labels.length c2] 7:=by
  have:=x4.1
  rw [x6.2 _ Ya,x4.2 _ Ya]
  exact z3
 by_cases h40:(40:Int) < ((rows.length:Nat):Int)
 ·simp +decide only [go_sem,WR,WS,hsz,e0,h40]
  exact .inl trivial
 by_cases h2000:(2000:Int) < (t:Int)
 ·simp +decide only [go_sem,WR,WS,hsz,e0,e4,h40,h2000]
  exact .inl trivial
 by_cases hb0:(0:Int)≤bad
 ·simp +decide only [go_sem,WR,WS,hsz,e0,e4,h40,h2000,hb0]
  exact .inl trivial
 have op:=Zod d w6 (D0.ext (x3.trans (x4.trans x6))) G Ya
 simp only [dl,hl] at op
 simp +decide only [go_sem,WR,WS,hsz,e0,e4,h40,h2000,hb0,z63]
 refine Zaa Kok x06.1 op fun r w7 x7 hr=> ?_
 obtain ⟨q,b,rfl,E1⟩:=hr
 have z67:w7.get w4.size=_:=(x7.2 _ Ya).trans z6
 have rop:=Zl0 d w7 (D1.ext (x6.trans x7)) G Ya
 simp only [dl,hl] at rop
 simp +decide only [go_sem,WS,hsz,z67]
 refine Zaa Kok (x06.trans x7).1 rop fun r w8 x8 hr=> ?_
 obtain ⟨q',b',rfl,E2⟩:=hr
 simp +decide only [go_sem,WS,hsz]
 have k1:=E1.lq
 have k2:=E1.hq
 have k3:=E1.lb
 have k4:=E1.hb
 have k5:=E2.lq
 have k6:=E2.lb
 have k7:=x06.1
 have k8:=x7.1
 have E1':=E1.ext x8
 refine .inr ⟨q,b,q',b',rfl,⟨by omega,E1'.hq,by omega,E1'.hb,E1'.ne,E1'.ed,E1'.row⟩,⟨by omega,E2.hq,by omega,E2.hb,E2.ne,E2.ed,E2.row⟩,by omega,by omega,by omega,by omega,by omega,by omega⟩
end Go.Proofs.YtachkofbmodnnaaGreat.D18
namespace Go.Im.Editing
open Go Go.Im Go.Im.Lexing Go.Im.Heads Go.Im.Defn Go.Proofs.YtachkofbmodnnaaGreat.H4 Go.Proofs.YtachkofbmodnnaaGreat.D4
theorem Zhk {x:HdT}:∀ {rs:List ByteArray} {i:Nat} {ls:List ByteArray} {lb:List (ByteArray × Nat)} {tk:List ByteArray},(∀ y ∈ ls,y.size≤2048)→∀ y ∈ (Zau x rs i ls lb tk).1.lines,y.size≤2048
 | [],i,ls,lb,tk,hl=>by rw [Zau];exact hl
 | r::rs,i,ls,lb,tk,hl=>by
   have nil:∀ y ∈ dZ.lines,y.size≤2048:=by intro y hy;simp [dZ] at hy
   by_cases h1:(lex (trimS (Zai r))).isNone=true∨200 < i
   ·rw [ZcV h1]
    exact nil
   ·have hl':∀ y ∈ ls++[runesBytes (trimS (Zai r))],y.size≤2048:=by
     intro y hy
     rcases List.mem_append.1 hy with hy | hy
     ·exact hl y hy
     ·simp only [List.mem_singleton] at hy
      rw [hy]
      cases hx:lex (trimS (Zai r)) with
      | none=>exact absurd (.inl (by rw [hx];rfl)) h1
      | some ts =>
        have:=ZeL hx
        have:=ZjW (trimS (Zai r))
        omega
    by_cases h2:(ZaO (trimS (Zai r))).1=E
    ·rw [Zde h1 h2]
     exact Zhk hl'
    ·by_cases h3:(ZaO (trimS (Zai r))).1 ∈ tk
     ·rw [ZdD h1 h2 h3]
      exact nil
     ·rw [Zdf h1 h2 h3]
      exact Zhk hl'
theorem Zqf (rows:List ByteArray):∀ y ∈ (ZaM rows).1.lines,y.size≤2048:=by
 intro y hy
 cases rows with
 | nil=>simp [ZaM,dZ] at hy
 | cons r rs =>
   rw [ZaM] at hy
   split at hy
   ·exact Zhk Yp y hy
   ·simp [dZ] at hy
theorem open_inv (rows:List ByteArray) (h:rows.length≤40):Inv (Zd1 (Zby (ZaM rows).1)):=by
 have hf:=(Zfk rows).1
 have hlen:=ZdW (ZaM rows).1
 obtain ⟨R,hR⟩:∃ R,R=Zby (ZaM rows).1:=⟨_,rfl⟩
 have hsz:∀ y ∈ R,y.size≤100000:=by
  intro y hy
  rw [hR,Zby] at hy
  rcases List.mem_cons.1 hy with rfl | hy
  ·exact Go.Proofs.YtachkofbmodnnaaGreat.D6.ZjL (Zea rows)
  ·have:=Zqf rows y hy
   omega
 rw [← hR] at hlen ⊢
 have at':∀ (i:Nat) (p:Nat × ByteArray),(ZcU R)[i]? =some p→p.1=i*10000∧p.2 ∈ R∧i < R.length:=by
  intro i p hp
  rw [ZcU,List.getElem?_mapIdx] at hp
  obtain ⟨s,hs,rfl⟩:=Option.map_eq_some_iff.1 hp
  exact ⟨rfl,List.mem_of_getElem? hs,(List.getElem?_eq_some_iff.1 hs).1⟩
 refine ⟨?_,?_,?_,?_,?_,?_⟩
 ·refine List.pairwise_iff_getElem.2 fun i j hi hj hij=> ?_
  have h1:=(at' i _ (List.getElem?_eq_getElem hi)).1
  have h2:=(at' j _ (List.getElem?_eq_getElem hj)).1
  rw [h1,h2]
  omega
 ·obtain ⟨s,hs⟩:∃ s,R[0]? =some s:=⟨_,List.getElem?_eq_getElem Ya⟩
  exact Zcg.2 ⟨s,List.mem_of_getElem? (Zhe hs)⟩
 ·show (ZcU R).length≤201
  rw [ZfT]
  omega
 ·intro p hp
  obtain ⟨i,hi⟩:=List.getElem?_of_mem hp
  obtain ⟨h1,_,h3⟩:=at' i p hi
  omega
 ·intro p hp
  obtain ⟨i,hi⟩:=List.getElem?_of_mem hp
  exact hsz _ (at' i p hi).2.1
 ·show R.length*10000≤9999999
  omega
end Go.Im.Editing
namespace Go.Im.Editing
open Go Go.Im Go.Im.Lexing Go.Im.Heads Go.Im.Defn
end Go.Im.Editing
namespace Go.Proofs.YtachkofbmodnnaaGreat.D19
open Go Go.Im Go.Im.Limbs Go.Im.Lexing Go.Im.Heads Go.Im.Editing Go.Im.Defn Go.Proofs Go.RowKit Hd H2 H3 H4 H5 D2 D3 D4 D5 D6 D8 D9 D11 D15 D18
set_option maxRecDepth 100000
end Go.Proofs.YtachkofbmodnnaaGreat.D19
