/- Proved here: parts of the way to BEditBack (X7); no condition beyond those that each theorem names. -/
import Derived.Test.YtachkofbmodnnaaGreatG5
import Derived.Shelf.RegionOpenPlain
import Derived.WalkKit
import Derived.Lib.Walk
import Derived.Lib.SliceRun
import Derived.Lib.Overlaps
import Derived.Laws.Externs
set_option linter.unusedSimpArgs false
set_option linter.unusedVariables false
namespace Go.Proofs.YtachkofbmodnnaaGreat.X7
open Go Go.Im Go.RowKit Go.Proofs Go.Lib
theorem Zni {P:Program} (w:World) {o:Oper} {a:Act} {K:Act→World→Prop} {Q:Exit→Act→World→Prop} {d s:Operand} {t u:TypeId} (ho:o.op= .call { callee:= .builtin .copy,args:= #[d,s],argTypes:= #[t,u] })
  {x y:Value} (hd:a.eval d=x) (hs:a.eval s=y) {v:Value} {w':World} (hr:(Builtin.copy_ #[t,u] o.type #[x,y]).run P w= .ok v w') (h:K (a.put o.dst v) w'):o.wp P a w K Q:=by
 unfold Oper.wp
 simp [execOp,ho,resolve,invoke,builtin,hd,hs,hr,Result.andThen]
 exact h
theorem Znj {P:Program} (w:World) {ops:Array Oper} {rest:List Oper} {o:Oper} {a:Act} {Q:Exit→Act→World→Prop} (hg:o.guard=none) {d s:Operand} {t u:TypeId} (ho:o.op= .call { callee:= .builtin .copy,args:= #[d,s],argTypes:= #[t,u] })
  {x y:Value} (hd:a.eval d=x) (hs:a.eval s=y) {v:Value} {w':World} (hr:(Builtin.copy_ #[t,u] o.type #[x,y]).run P w= .ok v w') (h:wpList P ops Q rest (a.put o.dst v) w'):wpList P ops Q (o::rest) a w :=
 wpList_plain hg fun _ hK=>Zni w ho hd hs hr (hK _ _ h)
theorem Znk {P:Program} {ops:Array Oper} {o:Oper} {a:Act} {w:World} {K:Act→World→Prop} {Q:Exit→Act→World→Prop} {E:Prop} (hg:o.guard=none) {d s:Operand} {t u:TypeId}
  (ho:o.op= .call { callee:= .builtin .copy,args:= #[d,s],argTypes:= #[t,u] }) {x y:Value} (hd:a.eval d=x) (hs:a.eval s=y) {v:Value} {w':World} (hr:(Builtin.copy_ #[t,u] o.type #[x,y]).run P w= .ok v w') (hK:K (a.put o.dst v) w') :
  if Region.wanted o (yielded ops a.tmps)=true then Oper.wp P o a w K Q else E:=by
 rw [if_pos (by simp [Region.wanted,hg])]
 exact Zni w ho hd hs hr hK
set_option maxHeartbeats 4000000 in
set_option maxRecDepth 100000 in
theorem Zot (b off n c i vb voff vc:Nat) (w W1 W2:World) (hi:i < n) (hroom:n+1≤c) (hc63:n≤1000000)
  (hov:∀ lb cb,(callFunc 88 #[.slice (some ⟨vb,voff,none⟩) 1 vc,.slice (some ⟨b,off+(i+1)*2,none⟩) lb cb]).run Tryz.prog w= .ok (.value (.bool false)) w)
  (hcp1:∀ ty dc sc,(Builtin.copy_ #[70,70] ty #[.slice (some ⟨b,off+(i+1)*2,none⟩) (n - i) dc,.slice (some ⟨b,off+i*2,none⟩) (n+1 - i) sc]).run Tryz.prog w.drew= .ok (goInt ((n - i:Nat):Int)) W1)
  (hcp2:∀ ty dc,(Builtin.copy_ #[70,70] ty #[.slice (some ⟨b,off+i*2,none⟩) (n+1 - i) dc,.slice (some ⟨vb,voff,none⟩) 1 vc]).run Tryz.prog W1= .ok (goInt 1) W2) :
  Calls Tryz.prog 72 #[.slice (some ⟨b,off,none⟩) n c,.int .i64 i,.slice (some ⟨vb,voff,none⟩) 1 vc] w fun e w'=>e= .returned (.slice (some ⟨b,off,none⟩) (n+1) c)∧w'=W2:=by
 have hz2:¬ ((i:Int)=(n:Int)):=Ya
 have hw1:IntKind.i64.wrap ((i:Int)+1)=(i:Int)+1:=Y0
 have hw2:IntKind.i64.wrap ((n:Int)+1)=(n:Int)+1:=Y0
 have hb1:(0:Int)≤(i:Int)+1:=Ya
 have hin:i≤n:=Ya
 have htn:((i:Int)+1).toNat=i+1:=Ya
 have htn2:((n:Int)+1).toNat=n+1:=Ya
 have hb2:¬ (c=i+1):=Ya
 have hb3:(i:Int)≤(n:Int)+1:=Ya
 have hb4:¬ (c=i):=Ya
 have hb5:¬ ((c:Int) < (n:Int)+1):=Ya
 have mixed:Tryz.prog.follows .mixedOrders=true:=Yh
 go_enter Tryz.func72,Tryz.ntmps72
 go_wp2_with (simp only [hov])
 go_region_law_o (refine Znk rfl rfl (by simp [Act.eval,Act.put];rfl) (by simp [Act.eval,Act.put];rfl) (hcp1 _ _ _) ?_)
 go_wp2_with (at_builtin;refine Znj _ rfl rfl rfl rfl (hcp2 _ _) ?_)
 go_ret
 exact ⟨rfl,rfl⟩
attribute [local go_sem] Tryz.underlying70 Tryz.underlying3
attribute [local go_sem] Tryz.f72
@[local go_sem] theorem el_r:elts Tryz.prog 70=some (.slice 2):=by kernel_rfl
@[local go_sem] theorem ZxH {low:Nat} {h:Heap} {s:Value} {a:Option Addr} {k c:Nat}:ZaC Tryz.prog low h #[70,70] s (.slice a k c)=iapp low h 2 24 s k (Zak h 2 (.slice a k c)):=Zas Yh Tryz.underlying70
abbrev zrow:List Value:=[.int .i64 0,.string ⟨#[]⟩]
set_option maxRecDepth 100000
theorem Zqe:Zmr Tryz.prog 70=some (2,24,[.int .i64 0,.string ⟨#[]⟩]):=by kernel_rfl
theorem Ziy {P:Program} {low:Nat} {h:Heap} {t1 t2 e:TypeId} {xt:TypeDesc} {i:TypeInfo} {k:Nat} {zz:Value} {s x:Value} {new:List Value} (he:P.underlying t1=some (.slice e)) (hi:P.info? e=some i) (hz:i.zero=some zz) (hs:0 < i.size)
  (hzs:zz.cells.size=i.size) (hu:P.underlying t2=some xt) (en:Zlf P h i xt x=some (k,new)):ZaC P low h #[t1,t2] s x=iapp low h i.size i.bytes s k (some new):=by
 have e1:((#[t1,t2]:Array TypeId)[0]?).bind P.underlying=some (.slice e):=he
 have e2':((#[t1,t2]:Array TypeId)[1]?).bind P.underlying=some xt:=hu
 simp only [ZaC,e1,e2',hi,en,iapp]
 cases s with
 | slice base n' cap =>
   simp only
   by_cases h3:140737488355328 < 2*(n'+k)*i.bytes∨4611686018427387904 < n'+k
   ·rw [if_pos (Or.inr (h3.elim Or.inl (fun a=>Or.inr (Or.inl a)))),if_pos h3]
   ·rw [if_neg (by rintro (h0 | h0 | h0 | h0)<;>first | exact h3 (.inl h0) | exact h3 (.inr h0) | omega | exact h0 (by rw [hz,Option.map_some,hzs])),if_neg h3]
 | _=>rfl
theorem Zjt {P:Program} {low:Nat} {h:Heap} {t1 t2:TypeId} {kd k:IntKind} {size bytes:Nat} {z:List Value} {s:Value} (hm:Zmr P t1=some (size,bytes,z)) (hu:P.underlying t2=some (.int kd)) {n:Nat} (h1:n < 281474976710656) (h2:n*bytes≤281474976710656) :
  ZaC P low h #[t1,t2] s (.int k (n:Int))=iapp low h size bytes s n (some (List.replicate n z).flatten):=by
 unfold Zmr at hm
 split at hm
 ·rename_i e he
  split at hm
  ·rename_i i hi
   split at hm
   ·rename_i zz hz
    split at hm
    ·rename_i hc
     cases hm
     have c1:0≤(n:Int)∧(n:Int) < 281474976710656∧(n:Int)*i.bytes≤281474976710656:=⟨Int.natCast_nonneg n,Int.ofNat_lt.2 h1,by rw [← Int.natCast_mul];exact Int.ofNat_le.2 h2⟩
     refine Ziy he hi hz hc.1 hc.2.1 hu ?_
     simp only [Zlf,hz]
     rw [if_pos c1,if_pos ⟨hc.2.2,hc.2.1⟩,Int.toNat_natCast]
    ·cases hm
   ·cases hm
  ·cases hm
 ·cases hm
theorem Zth {low:Nat} {h:Heap} {s:Value} {n:Nat} (hn:n≤1000000):ZaC Tryz.prog low h #[70,3] s (.int .i64 (n:Int))=iapp low h 2 24 s n (some (List.replicate n zrow).flatten) :=
 Zjt Zqe Tryz.underlying3 Ya Ya
theorem ZsT {low:Nat} {h:Heap} {s:Value} {n:Nat} {m:Int} (hm:m=(n:Int)) (hn:n≤1000000):ZaC Tryz.prog low h #[70,3] s (.int .i64 m)=iapp low h 2 24 s n (some (List.replicate n zrow).flatten):=by
 rw [hm]
 exact Zth hn
noncomputable def K0:Cfg:=cfg Tryz.prog [72] [] [] []
@[local go_sem] theorem K0P:K0.P=Tryz.prog:=rfl
@[local go_sem] theorem K0D {f r:Nat}:K0.dy f r=[]:=rfl
theorem K0ok:CfgOK K0:=ZpF Ye Ye
theorem Zf6 {h:Heap} {b o n l size:Nat} {k:IntKind} {cs:List Value} (hg:h.look b= .cells cs size) (hn:o+n*size≤cs.length) (hl:l≤n) (hz:0 < size) :
  irsl (some (.slice size)) h (some ⟨b,o,none⟩) n big (some (.int k (l:Int))) none none=some (.slice (some ⟨b,o+l*size,none⟩) (n - l) big):=by
 have hdiv:n≤(cs.length - o) / size:=by
  rw [Nat.le_div_iff_mul_le hz]
  omega
 have hin:Zb4 n ((cs.length - o) / size) (some (.int k (l:Int))) none none=some (l,n,(cs.length - o) / size):=Za6 YF rfl hl Ya
 have hnb:¬ big < big:=Ya
 simp only [irsl,if_neg hnb,hg,hin]
 simp
theorem Zhr {h:Heap} {b o n l u c size:Nat} {lo hi:Option Value} {cs:List Value} (hg:h.look b= .cells cs size) (hlo:Zag 0 lo=some l) (hhi:Zag n hi=some u) (hl:l≤u) (hu:u≤c) (hc:c < big) (h0:0 < c) :
  irsl (some (.slice size)) h (some ⟨b,o,none⟩) n c lo hi none=some (.slice (some ⟨b,if c=l then o else o+l*size,none⟩) (u - l) (c - l)):=by
 have hin:Zb4 n c lo hi none=some (l,u,c):=Za6 hlo hhi hl hu
 have hc0:¬ c=0:=Ya
 simp only [irsl,hin,if_pos hc,if_neg hc0,hg,if_true]
theorem Zm1 {low:Nat} {h:Heap} {size bytes b n k:Nat} {xs new:List Value} (hg:h.get b= .cells xs size) (hx:xs.length=n*size) (hlb:low≤b) (hs:0 < size) (hk:0 < k) (hn:new.length=k*size)
  (hb:2*(n+k)*bytes≤140737488355328) (hc:n+k≤4611686018427387904) :
  iapp low h size bytes (.slice (some ⟨b,0,none⟩) n big) k (some new)=some (.slice (some ⟨h.size,0,none⟩) (n+k) big,(h.set b .dead).push (.cells (xs++new) size)):=by
 have ht:xs.take (n*size)=xs:=by rw [← hx];exact List.take_length
 simp only [iapp]
 rw [if_neg Ya,if_neg Ya]
 simp only [iput,hg,Nat.zero_add,List.drop_zero,ht]
 have hpos:0 < k*size:=Nat.mul_pos hk hs
 rw [if_neg Yl,if_neg (Nat.lt_irrefl _),if_pos ⟨trivial,hlb⟩,if_neg (by rw [Nat.add_mul];omega)]
theorem Zm0 {low:Nat} {h:Heap} {size bytes b o n k cap:Nat} {xs new:List Value} (hg:h.get b= .cells xs size) (hx:o+n*size≤xs.length) (hk:0 < k) (hcap:cap < big) (hov:cap < n+k)
  (hb:2*(n+k)*bytes≤140737488355328) (hc:n+k≤4611686018427387904) :
  iapp low h size bytes (.slice (some ⟨b,o,none⟩) n cap) k (some new)=some (.slice (some ⟨h.size,0,none⟩) (n+k) big,h.push (.cells ((xs.drop o).take (n*size)++new) size)):=by
 simp only [iapp]
 rw [if_neg Ya,if_neg Ya]
 simp only [iput,hg]
 rw [if_neg Yl,if_pos hcap,if_neg Ya]
theorem Zim {h:Heap} {b o n c size:Nat} {cs:List Value} (hg:h.look b= .cells cs size) (hn:o+n*size≤cs.length):Zak h size (.slice (some ⟨b,o,none⟩) n c)=some ((cs.drop o).take (n*size)):=by
 simp only [Zak,hg]
 rw [if_pos ⟨trivial,hn⟩]
theorem Zps {low:Nat} {h:Heap} {size b o n:Nat} {x:Value} {cs new:List Value} (hg:h.get b= .cells cs size) (hi:Zak h size x=some new) (hl:low≤b) (hz:0 < size) (hn:o+n*size≤cs.length) :
  icp low h (some (.slice size)) b o n x=some (.int .i64 ((min (new.length / size) n:Nat):Int),h.set b (.cells (splice cs o (new.take (min (new.length / size) n*size))) size)):=by
 simp only [icp,hg,hi]
 rw [if_pos ⟨hl,trivial,hz,hn⟩]
theorem Zqy {h:Heap} {b vb vo vc n:Nat} {T us:List Value} (hn:0 < n) (hm:n≤1000000) (hg:h.get b= .cells T 2) (hT:T.length=n*2) (hv:h.look vb= .cells us 2) (hvo:vo+2≤us.length) {low:Nat} (hl:low≤b) :
  Does K0 low 72 #[.slice (some ⟨b,0,none⟩) n big,.int .i64 n,.slice (some ⟨vb,vo,none⟩) 1 vc] h fun v h'=>v= .slice (some ⟨h.size,0,none⟩) (n+1) big∧h'=(h.set b .dead).push (.cells (T++(us.drop vo).take 2) 2):=by
 refine Does.intro rfl Ye Tryz.func72 rfl ?_
 have hv':(h.get vb).read= .cells us 2:=hv
 have e1:=Zf6 (k:= .i64) (h:=h) (b:=b) (o:=0) (n:=n) (l:=n) (size:=2) (by rw [Heap.look,hg];rfl) Ya (Nat.le_refl n) Ya
 have e2:=Zm1 (low:=low) (bytes:=24) (k:=1) (new:=(us.drop vo).take 2) hg hT hl Ya Ya Yl Ya Ya
 simp +decide only [go_sem,WR,WS,hg,hv',e1,e2,if_pos hvo]
def Zbh (T new:List Value) (i:Nat):List Value:=T.take (i*2)++new++T.drop (i*2)
theorem Zou {h:Heap} {b vb vo vc n i:Nat} {T us:List Value} (hi:i < n) (hm:n+1≤1000000) (hg:h.get b= .cells T 2) (hT:T.length=n*2) (hb:b < h.size) (hv:h.look vb= .cells us 2) (hvb:vb < h.size) (hvo:vo+2≤us.length) {low:Nat} (hl:low≤h.size) :
  Does K0 low 72 #[.slice (some ⟨b,0,none⟩) n n,.int .i64 i,.slice (some ⟨vb,vo,none⟩) 1 vc] h fun v h'=>v= .slice (some ⟨h.size,0,none⟩) (n+1) big∧h'.size=h.size+1∧∀ c,h'.get c=(h.push (.cells (Zbh T ((us.drop vo).take 2) i) 2)).get c:=by
 refine Does.intro rfl Ye Tryz.func72 rfl ?_
 have hv':(h.get vb).read= .cells us 2:=hv
 have hne:¬ ((i:Int)=(n:Int)):=Ya
 have hgt:(n:Int) < ((n+1:Nat):Int):=Ya
 have hw1:IntKind.i64.wrap ((n:Int)+((1:Nat):Int))=((n+1:Nat):Int):=Y0
 have hw2:IntKind.i64.wrap ((i:Int)+((1:Nat):Int))=((i+1:Nat):Int):=Y0
 obtain ⟨m,hm'⟩:∃ m:Int,m=((n+1 - i:Nat):Int):=⟨_,rfl⟩
 have hw3:IntKind.i64.wrap (((n+1:Nat):Int) - i)=m:=by rw [IntKind.wrap_i64,hm'];omega
 have hlk:h.look b= .cells T 2:=by rw [Heap.look,hg];rfl
 have e1:=Zhr (h:=h) (b:=b) (o:=0) (n:=n) (l:=i) (u:=n) (c:=n) (lo:=some (.int .i64 i)) (hi:=none) hlk YF rfl Ya (Nat.le_refl n) YC Ya
 have hbig:n < big:=YC
 have e2:irsl (some (.slice 2)) h (some ⟨b,0,none⟩) n n none (some (.int .i64 i)) none=some (.slice (some ⟨b,0,none⟩) i n):=by
  have:=Zhr (h:=h) (b:=b) (o:=0) (n:=n) (l:=0) (u:=i) (c:=n) (lo:=none) (hi:=some (.int .i64 i)) hlk rfl YF Ya Ya hbig Ya
  simpa using this
 obtain ⟨z,hz,hzl⟩:∃ z,z=(List.replicate (n+1 - i) zrow).flatten∧z.length=(n+1 - i)*2:=⟨_,rfl,by simp [zrow]⟩
 have e3:=Zm0 (low:=low) (bytes:=24) (k:=n+1 - i) (o:=0) (n:=i) (cap:=n) (new:=z) hg Ya Ya hbig Ya Ya Ya
 rw [show i+(n+1 - i)=n+1 by omega,List.drop_zero,hz] at e3
 have e9:=ZsT (low:=low) (h:=h) (s:= .slice (some ⟨b,0,none⟩) i n) hm' (Nat.le_trans (Nat.sub_le (n+1) i) hm)
 rw [e3,← hz] at e9
 obtain ⟨w1,q1,x1,hs1,g1⟩:=lay1 h (.cells (T.take (i*2)++z) 2)
 rw [q1] at e9
 have lX:(T.take (i*2)++z).length=(n+1)*2:=by simp [hzl];omega
 obtain ⟨X,qX⟩:∃ X,X=T.take (i*2)++z:=⟨_,rfl⟩
 rw [← qX] at g1 lX
 have e4:=Zf6 (k:= .i64) (h:=w1) (b:=h.size) (o:=0) (n:=n+1) (l:=i) (size:=2) (cs:=X) (by rw [Heap.look,g1];rfl) Ya Ya Ya
 have gv:w1.look vb= .cells us 2:=by rw [Heap.look,x1.2 vb hvb];exact hv
 have e5:=Zps (low:=low) (h:=w1) (b:=h.size) (o:=0+i*2) (n:=n+1 - i) (size:=2) (cs:=X) (new:=(us.drop vo).take (1*2)) (x:= .slice (some ⟨vb,vo,none⟩) 1 vc) g1 (Zim gv Ya) hl Ya Ya
 have ln:((us.drop vo).take (1*2)).length=2:=Yl
 have hmin:min (((us.drop vo).take (1*2)).length / 2) (n+1 - i)=1:=by rw [ln];omega
 rw [hmin,List.take_of_length_le Ya] at e5
 obtain ⟨Y,qY⟩:∃ Y,Y=splice X (0+i*2) ((us.drop vo).take (1*2)):=⟨_,rfl⟩
 have lY:Y.length=(n+1)*2:=by rw [qY,ZcE Ya,lX]
 rw [← qY] at e5
 obtain ⟨w2,q2⟩:∃ w2,w2=w1.set h.size (.cells Y 2):=⟨_,rfl⟩
 have g2:w2.get h.size= .cells Y 2:=by rw [q2,Heap.Zae,if_pos rfl]
 have g2b:w2.look b= .cells T 2:=by rw [q2,Heap.look,Heap.Zae,if_neg Ya,x1.2 b hb,hg];rfl
 rw [← q2] at e5
 have e6:=Zf6 (k:= .i64) (h:=w2) (b:=h.size) (o:=0) (n:=n+1) (l:=i+1) (size:=2) (cs:=Y) (by rw [Heap.look,g2];rfl) Ya Ya Ya
 have e7:=Zhr (h:=w2) (b:=b) (o:=0) (n:=n) (l:=i) (u:=n) (c:=n) (lo:=some (.int .i64 i)) (hi:=none) g2b YF rfl Ya (Nat.le_refl n) hbig Ya
 rw [if_neg Ya] at e7
 have e8:=Zps (low:=low) (h:=w2) (b:=h.size) (o:=0+(i+1)*2) (n:=n+1 - (i+1)) (size:=2) (cs:=Y) (new:=(T.drop (0+i*2)).take ((n - i)*2)) (x:= .slice (some ⟨b,0+i*2,none⟩) (n - i) (n - i)) g2 (Zim g2b Ya) hl Ya Ya
 simp only [Nat.zero_add,ite_self] at e1 e4 e5 e6 e7 e8 qY
 simp +decide only [go_sem,WR,WS,hg,hv',e1,e2,hne,Zix Tryz.underlying70 hbig,hw1,hgt,hw2,hw3,e9,e4,e5,e6,e7,e8]
 have lT:(T.take (i*2)).length=i*2:=Yl
 have hL:(T.drop (i*2)).take ((n - i)*2)=T.drop (i*2):=List.take_of_length_le Yl
 have lL:(T.drop (i*2)).length=(n - i)*2:=Yl
 have hm2:min ((T.drop (i*2)).length / 2) (n+1 - (i+1))*2=(n - i)*2:=by rw [lL,Nat.mul_div_cancel _ Ya];omega
 have hY:Y.take ((i+1)*2)=T.take (i*2)++(us.drop vo).take 2:=by
  rw [qY,qX]
  simp only [splice,List.append_assoc]
  rw [List.take_left' lT,← List.append_assoc]
  exact List.take_left' (by rw [List.length_append,lT];simp;omega)
 have hD:Y.drop ((i+1)*2+(T.drop (i*2)).length)=[]:=List.drop_eq_nil_of_le (by rw [lL,lY];omega)
 rw [hL,hm2,← lL,List.take_length,hD,hY,List.append_nil]
 refine ⟨by rw [q2,Heap.size_set,hs1],fun c=> ?_⟩
 by_cases hc:c=h.size
 ·rw [if_pos hc,if_pos hc];rfl
 ·rw [if_neg hc,if_neg hc,q2,Heap.Zae,if_neg hc,← q1,Heap.Zam,if_neg hc]
theorem ZlM:Zaq Tryz.prog 69=some 2:=by kernel_rfl
theorem Zfv {w w':World} {ty:TypeId} {a b:Addr} {n m dc sc k:Nat} {ys:List Value} (hk:min m n=k) (hld:(loadCells b (k*2)).run Tryz.prog w= .ok ys.toArray w) (hst:(storeCells a ys).run Tryz.prog w= .ok () w') :
  (Builtin.copy_ #[70,70] ty #[.slice (some a) n dc,.slice (some b) m sc]).run Tryz.prog w= .ok (goInt (k:Int)) w':=by
 have e0:Nat.min m n=k:=hk
 have hf:(Builtin.firstCells 2 k (.slice (some b) m sc)).run Tryz.prog w= .ok ys.toArray w:=by
  simp only [Builtin.firstCells]
  exact hld
 simp only [Builtin.copy_,List.getElem?_toArray,List.getElem?_cons_zero,List.getElem?_cons_succ,Sem.run_bind,Zab Tryz.underlying70,Result.andThen_ok,Builtin.lenOf,Sem.run_pure,Zbg ZlM]
 rw [e0,hf]
 simp only [Result.andThen_ok,Sem.run_bind,hst,Sem.run_pure]
theorem Zh7 {w:World} {vb voff vc b off lb cb:Nat} {cv cb':Array Value} {tv tb:TypeId} (hne:vb≠b) (hv:w.heap[vb]? =some (.cells cv tv (0,0))) (hb:w.heap[b]? =some (.cells cb' tb (0,0))) (h0:0 < cb'.size) :
  (callFunc 88 #[.slice (some ⟨vb,voff,none⟩) 1 vc,.slice (some ⟨b,off,none⟩) lb cb]).run Tryz.prog w= .ok (.value (.bool false)) w:=by
 rw [run_callFunc_extern Tryz.func88 Yh Yh Yh (e:=Extern.SlicesOverlaps.overlaps #[70,70] #[4]) Yh,
  Lib.run_overlaps_apart w 70 4 69 Tryz.underlying70 2 (fun w=>Zbg ZlM) ⟨vb,voff,none⟩ ⟨b,off,none⟩ 1 vc lb cb hne tv tb cv.size cb'.size (by simp [World.shape?,hv]) (by simp [World.shape?,hb]) Ya (by simp [World.frozen?,hv]) (by simp [World.frozen?,hv])]
 rfl
theorem ZmR {low:Nat} {φ:Zac} {h:Heap} {w:World} {b vb vo n i c vc:Nat} {l m:Im.Loc} {T us:List Value} (rh:RH φ h w) (hb:φ b=some l) (hvb:φ vb=some m) (hl:low≤b) (hne:vb≠b) (hg:h.get b= .cells T 2) (hT:T.length=n*2)
  (hv:h.get vb= .cells us 2) (hvo:vo+2≤us.length) (hi:i < n) (hm:n≤1000000) (hc:n+1≤c) (hcap:l.off+c*2≤l.cap) :
  ∃ w',Calls Tryz.prog 72 #[.slice (some ⟨l.blk,l.off,none⟩) n c,.int .i64 i,.slice (some ⟨m.blk,m.off+vo,none⟩) 1 vc] w (fun e w''=>e= .returned (.slice (some ⟨l.blk,l.off,none⟩) (n+1) c)∧w''=w') ∧
    Goes low φ h w (Zac.add φ h.size ⟨l.blk,l.off,(n+1)*2,l.cap,2⟩) ((h.set b .dead).push (.cells (Zbh T ((us.drop vo).take 2) i) 2)) w':=by
 obtain ⟨cc,e,fr,ho,h1,h2,h3,h4,h5,h6,h7⟩:=Zch rh hb hg
 obtain ⟨cm,em,frm,hom,m1,m2,m3,m4,m5,m6,m7⟩:=Zch rh hvb hv
 have hfr:fr=(0,0):=by rcases h6 with h6 | h6;exact h6;omega
 have hfm:frm=(0,0):=by rcases m6 with h6 | h6;exact h6;omega
 subst hfr hfm
 have hbne:m.blk≠l.blk:=fun e=>hne (rh.inj vb b m l hvb hb (by rw [hv];simp) YQ (.inl (by rw [hv];rfl)) e)
 obtain ⟨ys,y1,y2,y3⟩:=ZbX Tryz.prog rh hb (by rw [Heap.look,hg];rfl) (o:=i*2) (n:=(n - i)*2) Ya
 obtain ⟨V,hV⟩:∃ V,V=(us.drop vo).take 2:=⟨_,rfl⟩
 have lV:V.length=2:=by rw [hV];simp;omega
 obtain ⟨zs,hzs0⟩:∃ zs,zs=(cm.toList.drop (m.off+vo)).take 2:=⟨_,rfl⟩
 have z3:zs.length=2:=by rw [hzs0];simp;omega
 have zc:∀ (j:Nat) (v:Value),zs[j]? =some v→cm[m.off+vo+j]? =some v:=by
  intro j v hj
  rw [hzs0,List.getElem?_take] at hj
  split at hj
  ·rw [List.getElem?_drop,Array.getElem?_toList] at hj
   exact hj
  ·cases hj
 have z2:RL φ V zs:=by
  refine ⟨by omega,?_⟩
  intro j x y hx hy
  have hy':=zc j y hy
  rw [hV,List.getElem?_take] at hx
  split at hx
  ·rw [List.getElem?_drop] at hx
   obtain ⟨_,v',hv',hrv⟩:=m7 _ _ hx
   rw [← Nat.add_assoc,hy'] at hv'
   cases hv'
   exact hrv
  ·cases hx
 have okV:∀ (j:Nat) (v:Value),V[j]? =some v→Zal v=true:=by
  intro j v hj
  rw [hV,List.getElem?_take] at hj
  split at hj
  ·rw [List.getElem?_drop] at hj
   exact (m7 _ v hj).1
  ·cases hj
 have one1:∀ v ∈ ys,v.oneCell'=true:=by
  intro v hv'
  obtain ⟨j,hj⟩:=List.getElem?_of_mem hv'
  have hj':j < ((T.drop (i*2)).take ((n - i)*2)).length:=by have:=(List.getElem?_eq_some_iff.1 hj).1;rw [y2.1];exact this
  have hx:=List.getElem?_eq_getElem hj'
  refine (y2.2 j _ v hx hj).oneCell ?_
  rw [List.getElem?_take] at hx
  split at hx
  ·rw [List.getElem?_drop] at hx
   exact (h7 _ _ hx).1
  ·cases hx
 have one2:∀ v ∈ zs,v.oneCell'=true:=by
  intro v hv'
  obtain ⟨j,hj⟩:=List.getElem?_of_mem hv'
  have hj':j < V.length:=by have:=(List.getElem?_eq_some_iff.1 hj).1;rw [z2.1];exact this
  have hx:=List.getElem?_eq_getElem hj'
  exact (z2.2 j _ v hx hj).oneCell (okV j _ hx)
 have hys:ys≠[]:=fun e=>by rw [e] at y3;simp at y3;omega
 have hzs:zs≠[]:=fun e=>by rw [e] at z3;simp at z3
 have hst1:=Zb8 (P:=Tryz.prog) ys 0 w.drew l.blk (l.off+(i+1)*2) cc e (0,0) ho (.inl rfl) Ya one1
 rw [if_neg hys] at hst1
 simp only [Nat.add_zero] at hst1
 obtain ⟨W1,hW1⟩:∃ W1,W1=World.putObj w.drew l.blk (.cells (wr cc (l.off+(i+1)*2) ys) e (0,0)):=⟨_,rfl⟩
 have hlt:l.blk < w.drew.heap.size:=(rh.low b l hb).2
 have ho1:W1.heap[l.blk]? =some (.cells (wr cc (l.off+(i+1)*2) ys) e (0,0)):=by rw [hW1,Za5 _ _ _ _ hlt,if_pos rfl]
 have hom1:W1.heap[m.blk]? =some (.cells cm em (0,0)):=by rw [hW1,Za5 _ _ _ _ hlt,if_neg hbne];exact hom
 have hst2:=Zb8 (P:=Tryz.prog) zs 0 W1 l.blk (l.off+i*2) _ e (0,0) ho1 (.inl rfl) (by rw [ZcO];omega) one2
 rw [if_neg hzs] at hst2
 simp only [Nat.add_zero] at hst2
 have hld2:(loadCells ⟨m.blk,m.off+vo,none⟩ (1*2)).run Tryz.prog W1= .ok zs.toArray W1:=by
  have:=run_loadCells_list (P:=Tryz.prog) W1 ⟨m.blk,m.off+vo,none⟩ zs (fun j v hj=>by
   rw [addr_add]
   simp only [World.cell?,hom1,Option.isSome_none,Bool.false_eq_true,if_false]
   exact zc j v hj)
  rw [z3] at this
  exact this
 have hc1:∀ ty dc sc,(Builtin.copy_ #[70,70] ty #[.slice (some ⟨l.blk,l.off+(i+1)*2,none⟩) (n - i) dc,.slice (some ⟨l.blk,l.off+i*2,none⟩) (n+1 - i) sc]).run Tryz.prog w.drew= .ok (goInt ((n - i:Nat):Int)) W1:=by
  intro ty dc sc
  refine Zfv Ya (y1 _) ?_
  rw [hst1,hW1]
 have hc2:=fun ty dc=>Zfv (w:=W1) (ty:=ty) (a:=⟨l.blk,l.off+i*2,none⟩) (n:=n+1 - i) (dc:=dc) (sc:=vc) (m:=1) (k:=1) Ya hld2 hst2
 refine ⟨_,Zot l.blk l.off n c i m.blk (m.off+vo) vc w W1 _ hi hc hm (fun lb cb=>Zh7 hbne hom ho Ya) hc1 hc2,?_⟩
 rw [hW1,ZgF]
 refine Goes.same (w1:=World.putObj w l.blk (.cells (wr (wr cc (l.off+(i+1)*2) ys) (l.off+i*2) zs) e (0,0))) (Goes.take (l2:=⟨l.blk,l.off,(n+1)*2,l.cap,2⟩) rh hb hl YQ YU rfl ?_) rfl rfl rfl rfl
 have lR:(Zbh T V i).length=(n+1)*2:=by simp [Zbh,lV];omega
 have lT:(T.take (i*2)).length=i*2:=Yl
 have hL:(T.drop (i*2)).take ((n - i)*2)=T.drop (i*2):=List.take_of_length_le Yl
 rw [hL] at y2
 have ext:=Zac.ZdO rh (⟨l.blk,l.off,(n+1)*2,l.cap,2⟩:Im.Loc)
 rw [← hV]
 refine ⟨lR,by rw [ZcO,ZcO];exact h2,by simp only;omega,rfl,by omega,.inl rfl,?_⟩
 intro j v hj
 simp only
 rw [ZiD _ _ _ _ (by rw [ZcO];omega)]
 by_cases c1:j < i*2
 ·rw [Zbh,List.append_assoc,List.getElem?_append_left Ya,List.getElem?_take,if_pos c1] at hj
  rw [if_neg Ya,ZiD _ _ _ _ Ya,if_neg Ya]
  obtain ⟨k1,u,k2,k3⟩:=h7 j v hj
  exact ⟨k1,u,k2,k3.mono ext⟩
 ·by_cases c2:j < i*2+2
  ·rw [Zbh,List.append_assoc,List.getElem?_append_right Ya,List.getElem?_append_left Ya,lT] at hj
   rw [if_pos Ya,show l.off+j - (l.off+i*2)=j - i*2 by omega]
   obtain ⟨y,hy,hrv⟩:=z2.get hj
   exact ⟨okV _ v hj,y,hy,hrv.mono ext⟩
  ·rw [Zbh,List.append_assoc,List.getElem?_append_right Ya,List.getElem?_append_right Ya,lT,lV] at hj
   have hjn:=(List.getElem?_eq_some_iff.1 hj).1
   rw [List.length_drop] at hjn
   rw [if_neg Ya,ZiD _ _ _ _ Ya,if_pos Ya,show l.off+j - (l.off+(i+1)*2)=j - i*2 - 2 by omega]
   obtain ⟨y,hy,hrv⟩:=y2.get hj
   rw [List.getElem?_drop] at hj
   exact ⟨(h7 _ v hj).1,y,hy,hrv.mono ext⟩
structure InsA where
 b:Nat
 n:Nat
 i:Nat
 vb:Nat
 vo:Nat
 vc:Nat
 cs:List Value
 us:List Value
def Zei (low:Nat) (args:Array Value) (h:Heap):Option InsA:=match args.toList with
 | [.slice (some ⟨b,o,none⟩) n c,.int .i64 z,.slice (some ⟨vb,vo,none⟩) k vc] =>
   if low≤b∧o=0∧vb≠b∧c=big∧k=1∧0≤z∧z.toNat≤n∧0 < n∧n≤100000 then match h.get b,h.get vb with
    | .cells cs 2,.cells us 2=>if n*2≤cs.length∧vo+2≤us.length then some ⟨b,n,z.toNat,vb,vo,vc,cs,us⟩ else none
    | _,_=>none
   else none
 | _=>none
def Zcf (h:Heap) (r:InsA):Heap:=(((h.set r.b .dead).push (.cells (r.cs.take (r.n*2)) 2)).set h.size .dead).push (.cells (Zbh (r.cs.take (r.n*2)) ((r.us.drop r.vo).take 2) r.i) 2)
def ZgP (low:Nat) (args:Array Value) (h:Heap):Option (Value × Heap):=match Zei low args h with
 | some r=>some (.slice (some ⟨h.size+1,0,none⟩) (r.n+1) big,Zcf h r)
 | none=>none
theorem ZgQ {low:Nat} {args:Array Value} {h:Heap} {r:InsA} (hr:Zei low args h=some r) :
  args.toList=[.slice (some ⟨r.b,0,none⟩) r.n big,.int .i64 (r.i:Int),.slice (some ⟨r.vb,r.vo,none⟩) 1 r.vc]∧low≤r.b∧r.vb≠r.b∧r.i≤r.n∧0 < r.n∧r.n≤100000 ∧
   h.get r.b= .cells r.cs 2∧h.get r.vb= .cells r.us 2∧r.n*2≤r.cs.length∧r.vo+2≤r.us.length:=by
 unfold Zei at hr
 split at hr
 ·rename_i b o n c z vb vo k vc ha
  split at hr
  ·rename_i hc
   obtain ⟨c1,rfl,c3,rfl,rfl,c6,c7,c8,c9⟩:=hc
   split at hr
   ·rename_i cs us hg hv
    split at hr
    ·rename_i hl
     cases hr
     refine ⟨?_,c1,c3,c7,c8,c9,hg,hv,hl.1,hl.2⟩
     rw [ha,Int.toNat_of_nonneg c6]
    ·cases hr
   ·cases hr
  ·cases hr
 ·cases hr
theorem Ziu {low low':Nat} {args:Array Value} {h:Heap} {r:InsA} (hl:low'≤low) (hr:Zei low args h=some r):Zei low' args h=some r:=by
 unfold Zei at hr ⊢
 split at hr
 ·rename_i b o n c z vb vo k vc ha
  split at hr
  ·rename_i hc
   have:low'≤b∧o=0∧vb≠b∧c=big∧k=1∧0≤z∧z.toNat≤n∧0 < n∧n≤100000:=⟨by omega,hc.2⟩
   simp only [if_pos this]
   exact hr
  ·cases hr
 ·cases hr
theorem Zm3 {low:Nat} {φ ψ:Zac} {h h' h'':Heap} {w w':World} (g:Goes low φ h w ψ h' w') (hs:h''.size=h'.size) (hg:∀ c,h''.get c=h'.get c):Goes low φ h w ψ h'' w' where
 ext:=g.ext
 old:=g.old
 rh:=⟨fun b l hb=>by rw [hs];exact g.rh.low b l hb,fun b l hb=>by rw [hg];exact g.rh.blk b l hb,fun b c l m h1 h2 h3 h4 h5=>by
  rw [hg] at h3 h4
  rw [hg,hg] at h5
  exact g.rh.inj b c l m h1 h2 h3 h4 h5⟩
 grows:=by rw [hs];exact g.grows
 fresh:=g.fresh
 os:=g.os
 tape:=g.tape
 output:=g.output
 size:=g.size
 kept:=g.kept
theorem ZmQ {low:Nat} {args:Array Value} {h:Heap} {r:InsA} (hlo:low≤h.size) (hr:Zei low args h=some r) {φ:Zac} {w:World} {args':Array Value} (ha:RL φ args.toList args'.toList) (rh:RH φ h w) :
  Calls Tryz.prog 72 args' w fun e w'=>∃ ψ v',e= .returned v'∧RV ψ (.slice (some ⟨h.size+1,0,none⟩) (r.n+1) big) v'∧Goes low φ h w ψ (Zcf h r) w':=by
 obtain ⟨hargs,hlow,hne,hin,hn0,hn1,hg,hv,hT,hvo⟩:=ZgQ hr
 obtain ⟨b,n,i,vb,vo,vc,cs,us⟩:=r
 simp only at *
 rw [hargs] at ha
 have hal:args'.toList.length=3:=by rw [← ha.1];rfl
 obtain ⟨s',i',v',hx⟩:∃ s' i' v',args'.toList=[s',i',v']:=by
  match args'.toList,hal with
  | [x,y,z],_=>exact ⟨x,y,z,rfl⟩
 rw [hx] at ha
 have hargs':args'= #[s',i',v']:=by rw [← Array.toList_inj,hx]
 obtain ⟨r1,ha⟩:=ha.tail
 obtain ⟨r2,ha⟩:=ha.tail
 obtain ⟨r3,_⟩:=ha.tail
 cases r2
 obtain ⟨l,c',hφ,hcn,hfit,hle,hcap,rfl⟩:∃ (l:Im.Loc) (c':Nat),φ b=some l∧n≤c'∧0+n*l.esz≤l.len∧l.len≤0+c'*l.esz∧l.off+0+c'*l.esz≤l.cap∧s'= .slice (some ⟨l.blk,l.off+0,none⟩) n c':=by
  cases r1 with
  | known _ _ _ _ l h1 h2=>exact absurd h2 (Nat.lt_irrefl _)
  | unknown _ _ _ c' l h1 h2 h3 h4 h5=>exact ⟨l,c',h1,h2,h3,h4,h5,rfl⟩
  | spent=>omega
 obtain ⟨m,vc',hφv,hve⟩:∃ (m:Im.Loc) (vc':Nat),φ vb=some m∧v'= .slice (some ⟨m.blk,m.off+vo,none⟩) 1 vc':=by
  cases r3 with
  | known _ _ _ _ l hl=>exact ⟨l,_,hl,rfl⟩
  | unknown _ _ _ c' l hl=>exact ⟨l,c',hl,rfl⟩
 obtain ⟨cc,e,fr,ho,h1,h2,h3,h4,h5,h6,h7⟩:=Zch rh hφ hg
 rw [h4] at hfit hle hcap
 obtain ⟨T,qT⟩:∃ T,T=cs.take (n*2):=⟨_,rfl⟩
 have lT:T.length=n*2:=by rw [qT];simp;omega
 obtain ⟨l2,q2⟩:∃ l2:Im.Loc,l2=⟨l.blk,l.off,n*2,l.cap,2⟩:=⟨_,rfl⟩
 obtain ⟨φ1,qφ⟩:∃ φ1,φ1=Zac.add φ h.size l2:=⟨_,rfl⟩
 obtain ⟨h1',qh⟩:∃ h1',h1'=(h.set b .dead).push (.cells T 2):=⟨_,rfl⟩
 have ext:=Zac.ZdO rh l2
 have gT:Goes low φ h w φ1 h1' w:=by
  rw [qφ,qh]
  refine Goes.same (w1:=World.putObj w l.blk (.cells cc e fr)) (Goes.take (l2:=l2) rh hφ hlow YQ YU (by rw [q2]) ?_) ?_ rfl rfl rfl
  ·rw [q2]
   refine ⟨by simp [lT],h2,by simp only;omega,rfl,by omega,by rw [h4] at *;exact h6,?_⟩
   intro j v hj
   rw [qT,List.getElem?_take] at hj
   split at hj
   ·obtain ⟨k1,u,k2,k3⟩:=h7 j v hj
    exact ⟨k1,u,k2,k3.mono (q2 ▸ ext)⟩
   ·cases hj
  ·apply Array.ext_getElem?
   intro k
   rw [Za5 _ _ _ _ (rh.low b l hφ).2]
   by_cases hk:k=l.blk
   ·rw [if_pos hk,hk,ho]
   ·rw [if_neg hk]
 have self1:φ1 h.size=some l2:=by rw [qφ];simp [Zac.add]
 have sz1:h1'.size=h.size+1:=by rw [qh];simp
 have get1:h1'.get h.size= .cells T 2:=by rw [qh];simp [Heap.Zam]
 have hvlt:vb < h.size:=(rh.low vb m hφv).1
 have get2:h1'.get vb= .cells us 2:=by rw [qh,Heap.Zam,if_neg Yl,Heap.Zae,if_neg hne,hv]
 have look2:h1'.look vb= .cells us 2:=by rw [Heap.look,get2];rfl
 have rv:RV φ1 (.slice (some ⟨vb,vo,none⟩) 1 vc) v':=by rw [qφ];exact r3.mono ext
 have hiH:Zcf h ⟨b,n,i,vb,vo,vc,cs,us⟩=(h1'.set h.size .dead).push (.cells (Zbh T ((us.drop vo).take 2) i) 2):=by rw [Zcf,qh,qT]
 rw [hiH,hargs']
 by_cases hi:i=n
 ·subst hi
  have rs:RV φ1 (.slice (some ⟨h.size,0,none⟩) i big) (.slice (some ⟨l.blk,l.off+0,none⟩) i c'):=by
   have:=RV.unknown (φ:=φ1) h.size 0 i c' l2 self1 hcn (by rw [q2];simp) (by rw [q2];simp;omega) (by rw [q2];simp;omega)
   rw [q2] at this
   exact this
  obtain ⟨N,v,h'',hrun,rfl,rfl⟩:=Zqy (h:=h1') (b:=h.size) (vb:=vb) (vo:=vo) (vc:=vc) (n:=i) (low:=low) hn0 Ya get1 lT look2 hvo hlo
  refine (ZbH K0ok Ya hrun (RL.cons rs (RL.cons (.int _ _) (RL.cons rv (RL.nil _)))) gT.rh True.intro).mono ?_
  rintro e w' ⟨ψ,v2,rfl,hrv,g⟩
  refine ⟨ψ,v2,rfl,?_,gT.trans ?_⟩
  ·rw [sz1] at hrv;exact hrv
  ·have:Zbh T ((us.drop vo).take 2) i=T++(us.drop vo).take 2:=by
    rw [Zbh,← lT,List.take_length,List.drop_length,List.append_nil]
   rw [this]
   exact g
 ·by_cases hc:c'=n
  ·subst hc
   have rs:RV φ1 (.slice (some ⟨h.size,0,none⟩) c' c') (.slice (some ⟨l.blk,l.off+0,none⟩) c' c'):=by
    have:=RV.known (φ:=φ1) h.size 0 c' c' l2 self1 YC (Nat.le_refl _) (by rw [q2];simp)
    rw [q2] at this
    exact this
   obtain ⟨N,v,h'',hrun,rfl,hs'',hg''⟩:=Zou (h:=h1') (b:=h.size) (vb:=vb) (vo:=vo) (vc:=vc) (n:=c') (i:=i) (low:=low) Ya Ya get1 lT Ya look2 Ya hvo Ya
   refine (ZbH K0ok Ya hrun (RL.cons rs (RL.cons (.int _ _) (RL.cons rv (RL.nil _)))) gT.rh True.intro).mono ?_
   rintro e w' ⟨ψ,v2,rfl,hrv,g⟩
   refine ⟨ψ,v2,rfl,?_,gT.trans (Zm3 (g.trans (Goes.kill g.rh h.size)) ?_ ?_)⟩
   ·rw [sz1] at hrv;exact hrv
   ·simp [hs'',sz1]
   ·intro c
    rw [Heap.Zam,Heap.size_set,Heap.Zae,Heap.Zae,hg'',Heap.Zam]
    by_cases e1:c=h1'.size
    ·have:¬ c=h.size:=by omega
     simp [e1,sz1]
    ·simp [e1]
  ·obtain ⟨w',hcalls,hgo⟩:=ZmR (vc:=vc') (i:=i) (c:=c') gT.rh self1 (gT.ext _ _ hφv) Ya Ya get1 lT get2 hvo Ya Ya Ya (by rw [q2];simp only;omega)
   rw [hve]
   rw [q2] at hcalls
   refine hcalls.mono ?_
   rintro e w'' ⟨rfl,rfl⟩
   refine ⟨_,_,rfl,?_,gT.trans hgo⟩
   have:=RV.unknown (φ:=Zac.add φ1 h1'.size ⟨l2.blk,l2.off,(n+1)*2,l2.cap,2⟩) (h.size+1) 0 (n+1) c' ⟨l2.blk,l2.off,(n+1)*2,l2.cap,2⟩ (by simp [Zac.add,sz1]) Ya Yp Yl (by rw [q2];simp;omega)
   rw [q2] at this ⊢
   exact this
noncomputable def insX {T:Tied}:Known Tryz.prog T where
 f:=72
 fn:=⟨_,Tryz.func72,rfl,by decide⟩
 run:=ZgP
 keeps:=fun {low args h v h'} hl hr=>by
  simp only [ZgP] at hr
  split at hr
  ·rename_i r hq
   cases hr
   obtain ⟨_,hlow,_⟩:=ZgQ hq
   refine ⟨by simp [Zcf];omega,fun b hb=> ?_⟩
   simp only [Zcf]
   rw [Heap.Zam,if_neg Yl,Heap.Zae,if_neg Ya,Heap.Zam,if_neg Yl,Heap.Zae,if_neg Ya]
  ·cases hr
 sound:=fun {low args h v h'} hl hr φ w args' ha rh _=>by
  simp only [ZgP] at hr
  split at hr
  ·rename_i r hq
   cases hr
   exact ZmQ hl hq ha rh
  ·cases hr
 lower:=fun {low low' args h r} hl hr=>by
  simp only [ZgP] at hr ⊢
  split at hr
  ·rename_i x hq
   rw [Ziu hl hq]
   exact hr
  ·cases hr
end Go.Proofs.YtachkofbmodnnaaGreat.X7
