/- Proved here: parts of the way to CTokenCuts (CV3 CV4 CV5 CV6 CV7); no condition beyond those that each theorem names. -/
import Derived.Test.YtjlaenglmdpboaaGreatK12
set_option linter.unusedSimpArgs false
set_option linter.unusedVariables false
namespace Go.Im.Lexing
open Go.Im.Limbs Go.Im.Arrays Go.Proofs.YtjlaenglmdpboaaGreat.N13 Go.Proofs.YtjlaenglmdpboaaGreat.N18 Go.Proofs.YtjlaenglmdpboaaGreat.N19
abbrev R3:=Bool × Nat × Nat
def rat3 (x:Bool × Nat × Int):R3:=(ratS x,ratM x,ratK x)
structure AT where
 shape:List Int
 ch:Bool
 tx:List Int
 nums:List R3
def numsL:Nat→List Int→List R3
 | 0,_=>[]
 | f+1,s=>if begins s then match readS s with
    | none=>[]
    | some k=>rat3 (readN s)::numsL f (s.drop (k+blanks (s.drop k)))
   else []
def textL:List Int→List Int
 | []=>[]
 | 39::39::s=>39::textL s
 | 39::_=>[]
 | c::s=>c::textL s
def numsAT (l:List R3):AT:=⟨if l.length=1 then [] else [(l.length:Int)],false,[],l⟩
def textAT (l:List Int):AT:=⟨if l.length=1 then [] else [(l.length:Int)],true,l,[]⟩
def valAt (l:List Int) (p:Nat):AT:=if begins (l.drop p) then numsAT (numsL 600 (l.drop p)) else textAT (textL (l.drop (p+1)))
def Rat3 (w:Heap) (q:List Value) (x:R3):Prop:=∃ p r,q=[p,.bool x.1,r]∧NatV w (.agg #[p]) x.2.1∧NatV w (.agg #[r]) x.2.2
def RatsV (w:Heap):List (List Value)→List R3→Prop
 | [],[]=>True
 | q::qs,x::xs=>Rat3 w q x∧RatsV w qs xs
 | _,_=>False
theorem RatsV.len {w:Heap}:∀ {qs:List (List Value)} {xs:List R3},RatsV w qs xs→qs.length=xs.length
 | [],[],_=>rfl
 | _::_,_::_,h=>by simp [RatsV.len h.2]
theorem RatsV.mono {w w':Heap} (H:∀ q x,Rat3 w q x→Rat3 w' q x):∀ {qs:List (List Value)} {xs:List R3},RatsV w qs xs→RatsV w' qs xs
 | [],[],_=>trivial
 | _::_,_::_,h=>⟨H _ _ h.1,RatsV.mono H h.2⟩
theorem RatsV.snoc {w:Heap} {q:List Value} {x:R3} (hq:Rat3 w q x):∀ {qs:List (List Value)} {xs:List R3},RatsV w qs xs→RatsV w (qs++[q]) (xs++[x])
 | [],[],_=>⟨hq,trivial⟩
 | _::_,_::_,h=>⟨h.1,RatsV.snoc hq h.2⟩
theorem RatsV.at {w:Heap}:∀ {qs:List (List Value)} {xs:List R3} {i:Nat} {x:R3},RatsV w qs xs→xs[i]? =some x→∃ q,(qs.flatten.drop (i*3)).take 3=q∧Rat3 w q x
 | [],[],i,x,_,h=>by simp at h
 | q::qs,y::xs,0,x,H,h=>by
   cases h
   have h1:=H.1
   obtain ⟨p,r,rfl,_⟩:=h1
   exact ⟨_,rfl,H.1⟩
 | q::qs,y::xs,i+1,x,H,h=>by
   obtain ⟨p,r,hq,_⟩:=H.1
   obtain ⟨q',e,hr⟩:=RatsV.at H.2 (show xs[i]? =some x from h)
   refine ⟨q',?_,hr⟩
   rw [← e,List.flatten_cons,hq,show (i+1)*3=3+i*3 by omega,← List.drop_drop]
   rfl
def AG (w:Heap) (rest:List Value) (p:AT):Prop:=∃ a c a1 c1 a2 c2 qs,rest=[.slice a p.shape.length c,.bool p.ch,.slice a1 p.tx.length c1,.slice a2 p.nums.length c2,.bool true] ∧
 Sl w 1 a p.shape.length c (iv p.shape)∧Sl w 1 a1 p.tx.length c1 (rv p.tx)∧Sl w 3 a2 p.nums.length c2 qs.flatten∧RatsV w qs p.nums∧(p.nums=[]→a2=none)
def Fr (q:Nat) (u:Value) (h h':Heap):Prop:=h.size≤h'.size∧∀ b,b < h.size→b≠q→vblk u≠some b→h'.get b=h.get b
theorem _root_.Go.Im.Sl.fr {h h':Heap} {q:Nat} {u:Value} (k:Fr q u h h') {e:Nat} {a:Option Addr} {n c:Nat} {xs:List Value} (s:Sl h e a n c xs) (h1:∀ b o,a=some ⟨b,o,none⟩→0 < c→(∃ cs,(h.get b).read= .cells cs e)→b≠q∧vblk u≠some b):Sl h' e a n c xs:=by
 rcases s with h0 | h0 | ⟨b,o,cs,h2,h3,h4,h5,h6⟩
 ·exact .inl h0
 ·exact .inr (.inl h0)
 ·obtain ⟨g1,g2⟩:=h1 b o h2 h3 ⟨cs,h5⟩
  exact .inr (.inr ⟨b,o,cs,h2,h3,by have:=k.1;omega,by rw [k.2 b h4 g1 g2];exact h5,h6⟩)
structure Apart (h:Heap) (q:Nat) (u:Value) (e9:Nat):Prop where
 own:∃ low n xs,Own low h e9 u n xs
 lex:(∃ t i o,h.get q= .cells [t,.int .i64 i,o] 3)∨h.size≤q
theorem Apart.one {h:Heap} {q e9:Nat} {u:Value} (A:Apart h q u e9) {e b:Nat} (he:e≠e9) (hb:b < h.size) {cs:List Value} (hg:(h.get b).read= .cells cs e):(e≠3→b≠q)∧vblk u≠some b:=by
 constructor
 ·rintro h3 rfl
  rcases A.lex with ⟨t,i,o,hq⟩ | hq
  ·rw [hq] at hg
   cases hg
   exact h3 rfl
  ·omega
 ·intro hv
  obtain ⟨low,n,xs,O⟩:=A.own
  rcases O with ⟨rfl,_⟩ | ⟨b',rfl,_,_,h4,_⟩
  ·cases hv
  ·simp only [vblk,Option.some.injEq] at hv
   subst hv
   rw [h4] at hg
   cases hg
   exact he rfl
theorem _root_.Go.Im.Sl.fr1 {h h':Heap} {q e9:Nat} {u:Value} (k:Fr q u h h') (A:Apart h q u e9) (h9:1≠e9) {a:Option Addr} {n c:Nat} {xs:List Value} (s:Sl h 1 a n c xs):Sl h' 1 a n c xs:=by
 have s0:=s
 rcases s0 with h0 | h0 | ⟨b,o,cs,h2,h3,h4,h5,h6⟩
 ·exact .inl h0
 ·exact .inr (.inl h0)
 ·refine s.fr k fun b' o' e' _ _=> ?_
  rw [h2] at e'
  cases e'
  have:=A.one h9 h4 h5
  exact ⟨this.1 (by omega),this.2⟩
theorem _root_.Go.Im.NatV.fr {h h':Heap} {q e9:Nat} {u:Value} (k:Fr q u h h') (A:Apart h q u e9) (h9:1≠e9) {v:Value} {m:Nat} (H:NatV h v m):NatV h' v m:=by
 obtain ⟨a,n,c,h1,h2⟩:=H
 exact ⟨a,n,c,h1,h2.fr1 k A h9⟩
theorem AG.fr {h h':Heap} {q e9:Nat} {u:Value} (k:Fr q u h h') (A:Apart h q u e9) (h9:1≠e9) (h93:3≠e9) {rest:List Value} {p:AT} (H:AG h rest p):AG h' rest p:=by
 obtain ⟨a,c,a1,c1,a2,c2,qs,h1,h2,h3,h4,h5,h6⟩:=H
 refine ⟨a,c,a1,c1,a2,c2,qs,h1,h2.fr1 k A h9,h3.fr1 k A h9,?_,h5.mono fun q' x ⟨p',r',g1,g2,g3⟩=>⟨p',r',g1,g2.fr k A h9,g3.fr k A h9⟩,h6⟩
 have s0:=h4
 rcases s0 with h0 | h0 | ⟨b,o,cs,g2,g3,g4,g5,g6,g7,g8⟩
 ·exact .inl h0
 ·exact .inr (.inl h0)
 ·refine h4.fr k fun b' o' e' _ _=> ?_
  rw [g2] at e'
  cases e'
  have:=A.one h93 g4 g5
  refine ⟨?_,this.2⟩
  rintro rfl
  rcases A.lex with ⟨t,i,o2,hq⟩ | hq
  ·rw [hq] at g5
   cases g5
   cases hn:p.nums with
   | nil =>
     have:=h6 hn
     rw [this] at g2
     cases g2
   | cons x xs =>
     rw [hn] at h5 g6
     cases qs with
     | nil=>exact h5
     | cons q' qs =>
       obtain ⟨p',r',rfl,_⟩:=h5.1
       simp only [List.length_cons,List.length_nil] at g6
       have ho:o=0:=by omega
       subst ho
       have:=congrArg (fun l=>l[1]?) g7
       rw [hn] at this
       simp [List.length_cons] at this
       rw [List.getElem?_take] at this
       split at this
       ·simp at this
       ·cases this
  ·omega
theorem AG.ext {h h':Heap} (k:Ext h h') {rest:List Value} {p:AT} (H:AG h rest p):AG h' rest p:=by
 obtain ⟨a,c,a1,c1,a2,c2,qs,h1,h2,h3,h4,h5,h6⟩:=H
 exact ⟨a,c,a1,c1,a2,c2,qs,h1,h2.ext k,h3.ext k,h4.ext k,h5.mono fun q' x ⟨p',r',g1,g2,g3⟩=>⟨p',r',g1,g2.ext k,g3.ext k⟩,h6⟩
def TV (l:List Int) (h:Heap) (x:XT):Prop:=Arr5 x.2∧(x.1.2.kind=1→AG h x.2 (valAt l x.1.1))
theorem TV.ext {l:List Int} {h h':Heap} (k:Ext h h') {x:XT} (H:TV l h x):TV l h' x:=⟨H.1,fun e=>(H.2 e).ext k⟩
theorem TV.fr {l:List Int} {h h':Heap} {q:Nat} {u:Value} (k:Fr q u h h') (A:Apart h q u 9) {x:XT} (H:TV l h x):TV l h' x:=⟨H.1,fun e=>(H.2 e).fr k A (by omega) (by omega)⟩
def LV (l:List Int) (low:Nat) (h:Heap) (xb:Nat) (tv:Value) (at':Nat) (xs:List XT):Prop:=low≤xb∧xb < h.size∧xs.length≤at'∧(∀ x ∈ xs,TV l h x) ∧
 ∃ ov,h.get xb= .cells [tv,.int .i64 (at':Int),ov] 3∧Own low h 9 ov xs.length (xcs xs)∧vblk ov≠some xb
theorem LV.ext {l:List Int} {low:Nat} {h w:Heap} {xb:Nat} {tv:Value} {at':Nat} {xs:List XT} (L:LV l low h xb tv at' xs) (x:Ext h w):LV l low w xb tv at' xs:=by
 obtain ⟨h1,h2,h3,h4,ov,h5,h6,h7⟩:=L
 exact ⟨h1,Nat.lt_of_lt_of_le h2 x.1,h3,fun y hy=>(h4 y hy).ext x,ov,(x.2 _ h2).trans h5,h6.ext x,h7⟩
end Go.Im.Lexing
namespace Go.Proofs.YtjlaenglmdpboaaGreat.V3
open Go Go.Im Go.Im.Limbs Go.Im.Lexing Go.Proofs Go.RowKit Hd N1 N10 N13 N15 N16 N17 N18 N19
set_option maxRecDepth 100000
theorem add_val {h0 h:Heap} (x:Ext h0 h) {xb at' upto:Nat} {tv:Value} {xs:List XT} {l:List Int} (L:LV l h0.size h xb tv at' xs) (tk:Tk) {a:Option Addr} {n c:Nat} {b:Bool} {a2:Option Addr} {n2 c2:Nat} {a3:Option Addr} {n3 c3:Nat} {m:Bool} {z:Int} (hat:at'≤1000000) (hto:at' < upto)
  (hT:TV l h ((at',tk),[.slice a n c,.bool b,.slice a2 n2 c2,.slice a3 n3 c3,.bool m])) :
  Does K h0.size 72 #[.pointer (some ⟨xb,0,none⟩),.agg #[.int .i64 (tk.kind:Int),.int .i64 z,.string (runesBytes tk.word),.int .i32 tk.sign,.slice a n c,.bool b,.slice a2 n2 c2,.slice a3 n3 c3,.bool m],.int .i64 (upto:Int)] h fun v h'=>v= .bool true∧LV l h0.size h' xb tv upto (xs++[((at',tk),[.slice a n c,.bool b,.slice a2 n2 c2,.slice a3 n3 c3,.bool m])]):=by
 obtain ⟨hl,hb,hbd,hall,ov,hg,own,hv⟩:=L
 refine Does.intro rfl (by decide +kernel) Tryz.func72 rfl ?_
 obtain ⟨w1,e1,x1,hs1,g1⟩:=lay1 h (.cells [.int .i64 (tk.kind:Int),.int .i64 z,.string (runesBytes tk.word),.int .i32 tk.sign,.slice a n c,.bool b,.slice a2 n2 c2,.slice a3 n3 c3,.bool m] 9)
 have hg1:w1.get xb=_:=(x1.2 _ hb).trans hg
 obtain ⟨w2,e2,x2,hs2,g2,k2⟩:=put1 x1 (Nat.le_refl _) (.cells [.int .i64 (tk.kind:Int),.int .i64 (at':Int),.string (runesBytes tk.word),.int .i32 tk.sign,.slice a n c,.bool b,.slice a2 n2 c2,.slice a3 n3 c3,.bool m] 9)
 have hg2:w2.get xb=_:=(k2 _ (by omega)).trans hg1
 have k1:=x.1
 obtain ⟨w3,e3,x3,hs3,g3⟩:=lay1 w2 (.cells [.int .i64 (tk.kind:Int),.int .i64 (at':Int),.string (runesBytes tk.word),.int .i32 tk.sign,.slice a n c,.bool b,.slice a2 n2 c2,.slice a3 n3 c3,.bool m] 9)
 have x03:=x.trans (x2.trans x3)
 have own3:=own.ext (x2.trans x3)
 have hg3:w3.get xb=_:=(x3.2 _ (by omega)).trans hg2
 obtain ⟨w4,e4,own4,hs4,k4⟩:=own_app (bytes:=128) (k:=1) (new:=[.int .i64 (tk.kind:Int),.int .i64 (at':Int),.string (runesBytes tk.word),.int .i32 tk.sign,.slice a n c,.bool b,.slice a2 n2 c2,.slice a3 n3 c3,.bool m]) own3 x03.1 (by omega) (by omega) rfl (by omega) (by omega)
 have hg4:w4.get xb=_:=(k4 _ (by omega) hv).trans hg3
 have x04:Ext h0 w4:=by
  refine ⟨by have:=x03.1;omega,fun q hq=> ?_⟩
  rw [k4 q (by have:=x03.1;omega) ?_,x03.2 q hq]
  rcases own with ⟨rfl,_⟩ | ⟨b',rfl,h5,_⟩
  ·simp [vblk]
  ·simp only [vblk,ne_eq,Option.some.injEq]
   omega
 obtain ⟨w5,e5,x5,hs5,g5,k5⟩:=put1 x04 hl (.cells [tv,.int .i64 (at':Int),.slice (some ⟨w3.size,0,none⟩) (xs.length+1) big] 3)
 obtain ⟨w6,e6,x6,hs6,g6,k6⟩:=put1 x5 hl (.cells [tv,.int .i64 (upto:Int),.slice (some ⟨w3.size,0,none⟩) (xs.length+1) big] 3)
 simp +decide only [go_sem,WR,WS,e1,hg1,g1,k1,e2,hg2,g2,e3,g3,e4,hg4,hl,e5,g5,e6]
 have fr:Fr xb ov h w6:=⟨by omega,fun q hq h1 h2=>by rw [k6 q h1,k5 q h1,k4 q (by omega) h2,x3.2 q (by omega),k2 q (by omega),x1.2 q hq]⟩
 have ap:Apart h xb ov 9:=⟨⟨_,_,_,own⟩,.inl ⟨_,_,_,hg⟩⟩
 refine ⟨hl,by omega,by simp;exact Nat.lt_of_le_of_lt hbd hto,fun y hy=> ?_,_,g6,?_,?_⟩
 ·rcases List.mem_append.1 hy with hy | hy
  ·exact (hall y hy).fr fr ap
  ·rw [List.mem_singleton] at hy
   rw [hy]
   exact hT.fr fr ap
 ·rw [xcs_append,xcs_one,List.length_append,List.length_singleton]
  refine own4.keep (Nat.le_refl _) fun q hq hvq=> ?_
  simp only [vblk,Option.some.injEq] at hvq
  exact ⟨(k6 q (by omega)).trans (k5 q (by omega)),by omega⟩
 ·simp only [vblk,ne_eq,Option.some.injEq]
  omega
end Go.Proofs.YtjlaenglmdpboaaGreat.V3
namespace Go.Proofs.YtjlaenglmdpboaaGreat.V4
open Go Go.Im Go.Im.Limbs Go.Im.Lexing Go.Im.Arrays Go.Proofs Go.RowKit Hd N1 N10 N13 N16 N18 V20
set_option maxRecDepth 100000
theorem ag_set {w:Heap} {q:Nat} {old new:List Value} {rest:List Value} {p:AT} (hg:w.get q= .cells old 5) (ho:old.length=5) (hq:q < w.size) (H:AG w rest p):AG (w.set q (.cells new 5)) rest p:=by
 refine AG.fr (h:=w) (h':=w.set q (.cells new 5)) (q:=w.size) (u:= .slice (some ⟨q,0,none⟩) 1 big) (e9:=5) ⟨Nat.le_refl _,fun b hb _ hv=> ?_⟩ ⟨⟨0,1,old,.inr ⟨q,rfl,Nat.zero_le _,hq,hg,by omega⟩⟩,.inr (Nat.le_refl _)⟩ (by omega) (by omega) H
 rw [Heap.get_set,if_neg]
 rintro rfl
 exact hv rfl
theorem num_val (h:Heap) {q:List Value} {x:R3} (hq:Rat3 h q x):Runs K 90 #[.agg q.toArray] h fun r w=>∃ l,r= .agg l.toArray∧AG w l (numsAT [x]):=by
 have hq0:=hq
 obtain ⟨p,r,rfl,hp,hr⟩:=hq0
 obtain ⟨a,n,c,rfl⟩:=natv_slice hp
 obtain ⟨a',n',c',rfl⟩:=natv_slice hr
 refine Runs.of Kok (Does.intro rfl (by decide +kernel) Tryz.func90 rfl ?_)
 obtain ⟨w1,e1,x1,hs1,g1,g2⟩:=lay2 h (.cells [.slice a n c,.bool x.1,.slice a' n' c'] 3) (.cells [.slice none 0 0,.bool false,.slice none 0 0,.slice none 0 0,.bool false] 5)
 obtain ⟨w2,e2,x2,hs2,z2⟩:=lay1 w1 (.cells [.slice a n c,.bool x.1,.slice a' n' c'] 3)
 have j1:h.size≤h.size+1:=by omega
 obtain ⟨w3,e3,x3,hs3,z3,k3⟩:=put1 (x1.trans x2) j1 (.cells [.slice none 0 0,.bool false,.slice none 0 0,.slice (some ⟨w1.size,0,none⟩) 1 1,.bool true] 5)
 have y2:w2.get (h.size+1)=_:=(x2.2 _ (by omega)).trans g2
 have z4:w3.get w1.size=_:=(k3 _ (by omega)).trans z2
 simp +decide only [go_sem,WR,WS,e1,g1,e2,y2,j1,e3,z3]
 exact ⟨_,rfl,none,0,none,0,some ⟨w1.size,0,none⟩,_,[[.slice a n c,.bool x.1,.slice a' n' c']],rfl,Sl.nil _ _,Sl.nil _ _,Sl.made (by omega) z4 rfl (by simp [numsAT,big]),⟨⟨_,_,rfl,hp.ext x3,hr.ext x3⟩,trivial⟩,by simp [numsAT]⟩
theorem char_val (c:Int) (h:Heap):Runs K 94 #[.int .i32 c] h fun r w=>∃ l,r= .agg l.toArray∧AG w l (textAT [c]):=by
 refine Runs.of Kok (Does.intro rfl (by decide +kernel) Tryz.func94 rfl ?_)
 obtain ⟨w1,e1,x1,hs1,g1⟩:=lay1 h (.cells [.slice none 0 0,.bool false,.slice none 0 0,.slice none 0 0,.bool false] 5)
 obtain ⟨w2,e2,x2,hs2,z2⟩:=lay1 w1 (.cells [.int .i32 c] 1)
 obtain ⟨w3,e3,x3,hs3,z3,k3⟩:=put1 (x1.trans x2) (Nat.le_refl h.size) (.cells [.slice none 0 0,.bool true,.slice (some ⟨w1.size,0,none⟩) 1 1,.slice none 0 0,.bool true] 5)
 have y1:w2.get h.size=_:=(x2.2 _ (by omega)).trans g1
 have z4:w3.get w1.size=_:=(k3 _ (by omega)).trans z2
 simp +decide only [go_sem,WR,WS,e1,e2,y1,e3,z3]
 exact ⟨_,rfl,none,0,some ⟨w1.size,0,none⟩,_,none,0,[],rfl,Sl.nil _ _,Sl.made (by omega) z4 rfl (by simp [textAT,big]),Sl.nil _ _,trivial,fun _=>rfl⟩
theorem cloneq_run (h:Heap) {a:Option Addr} {n c:Nat} {xs:List Value} (s:Sl h 3 a n c xs) (hn:n≤1000000):Runs K 124 #[.slice a n c] h fun r w=>∃ a' c',r= .slice a' n c'∧Sl w 3 a' n c' xs:=by
 refine Runs.of Kok (Does.intro rfl (by decide +kernel) Tryz.func124 rfl ?_)
 cases a with
 | none =>
   have h0:n=0:=by
    rcases s with ⟨_,h0,_⟩ | ⟨_,_,hh,_⟩ | ⟨_,_,_,hh,_⟩
    ·exact h0
    ·cases hh
    ·cases hh
   subst h0
   have hx:xs=[]:=List.eq_nil_of_length_eq_zero (by have:=s.length;omega)
   subst hx
   simp +decide only [go_sem,WR,WS]
   exact ⟨_,_,rfl,Sl.nil _ _⟩
 | some ad =>
   obtain ⟨w1,e1,x1,hs1,g1⟩:=lay1 h (.cells [] 3)
   obtain ⟨a2,c2,w2,e2,x2,_,s2⟩:=app0 (low:=h.size) (bytes:=56) (new:=xs) (k:=n) g1 (by omega) (by omega) (by have:=s.length;omega) (by omega) (by omega)
   have hi:=(s.ext x1).isl
   simp +decide only [go_sem,WR,WS,e1,hi,e2]
   exact ⟨_,_,rfl,s2⟩
theorem text_val (h:Heap) {a:Option Addr} {c:Nat} {l:List Int} (s:Sl h 1 a l.length c (rv l)) (hn:l.length≤1000000) (h1:l.length≠1):Runs K 95 #[.slice a l.length c] h fun r w=>∃ q,r= .agg q.toArray∧AG w q (textAT l):=by
 refine Runs.of Kok (Does.intro rfl (by decide +kernel) Tryz.func95 rfl ?_)
 obtain ⟨w1,e1,x1,hs1,g1,g2⟩:=lay2 h (.cells [.slice none 0 0,.bool false,.slice none 0 0,.slice none 0 0,.bool false] 5) (.cells [.int .i64 (l.length:Int)] 1)
 simp +decide only [go_sem,WR,WS,e1]
 refine W_call Kok x1.1 (cloner_run w1 (s.ext x1) hn) fun r w2 x2 hr=> ?_
 obtain ⟨a',c',rfl,s'⟩:=hr
 have y1:w2.get h.size=_:=(x2.2 _ (by omega)).trans g1
 have y2:w2.get (h.size+1)=_:=(x2.2 _ (by omega)).trans g2
 simp +decide only [go_sem,WR,WS,y1]
 have e0:textAT l=⟨[(l.length:Int)],true,l,[]⟩:=by unfold textAT;rw [if_neg h1]
 rw [e0]
 exact ⟨_,rfl,ag_set y1 rfl (by have:=x2.1;omega) ⟨_,_,_,_,none,0,[],rfl,Sl.made (N:=1) (by have:=x2.1;omega) y2 rfl (by simp [big]),s',Sl.nil _ _,trivial,fun _=>rfl⟩⟩
theorem nums_val (h:Heap) {b:Nat} {v:Value} {qs:List (List Value)} {xs:List R3} (hg:h.get b= .cells [.int .i64 (xs.length:Int)] 1) (hb:b < h.size) (h0:0 < xs.length) (h1:xs.length≠1) (hn:xs.length≤4096) {a:Option Addr} {c:Nat} (s:Sl h 3 a xs.length c qs.flatten) (R:RatsV h qs xs) :
  Runs K 91 #[.slice (some ⟨b,0,none⟩) 1 1,.slice a xs.length c] h fun r w=>∃ l m,r= .tuple #[.agg l.toArray,.bool m]∧AG w l (numsAT xs):=by
 refine Runs.of Kok (Does.intro rfl (by decide +kernel) Tryz.func91 rfl ?_)
 obtain ⟨w1,e1,x1,hs1,g1⟩:=lay1 h (.cells [.slice none 0 0,.bool false,.slice none 0 0,.slice none 0 0,.bool false] 5)
 have hg1:w1.get b=_:=(x1.2 _ hb).trans hg
 simp +decide only [go_sem,WR,WS,e1]
 refine W_call Kok x1.1 (count_one xs.length w1 hg1 h0 hn) fun r w2 x2 hr=> ?_
 subst hr
 have hg2:w2.get b=_:=(x2.2 _ (by omega)).trans hg1
 have x12:=x1.trans x2
 simp +decide only [go_sem,WR,WS]
 refine W_call Kok x12.1 (clonei_run w2 (n:=1) (xs:=[.int .i64 (xs.length:Int)]) (.inr (.inr ⟨b,0,_,rfl,by omega,by have:=x12.1;omega,by rw [hg2];rfl,by simp,rfl,.inl ⟨Nat.le_refl _,by simp [big]⟩⟩)) (by omega)) fun r w3 x3 hr=> ?_
 obtain ⟨a1,c1,rfl,s1⟩:=hr
 have x13:=x12.trans x3
 simp +decide only [go_sem,WR,WS]
 refine W_call Kok x13.1 (cloneq_run w3 (s.ext x13) (by omega)) fun r w4 x4 hr=> ?_
 obtain ⟨a2,c2,rfl,s2⟩:=hr
 have g4:w4.get h.size=_:=((x2.trans (x3.trans x4)).2 _ (by omega)).trans g1
 simp +decide only [go_sem,WR,WS,g4]
 have e0:numsAT xs=⟨[(xs.length:Int)],false,[],xs⟩:=by unfold numsAT;rw [if_neg h1]
 rw [e0]
 refine ⟨_,_,rfl,ag_set g4 rfl (by have:=x2.1;have:=x3.1;have:=x4.1;omega) ⟨_,_,none,0,_,_,qs,rfl,s1.ext x4,Sl.nil _ _,s2,R.mono fun q x ⟨p',r',q1,q2,q3⟩=>⟨p',r',q1,q2.ext (x13.trans x4),q3.ext (x13.trans x4)⟩,fun hh=> ?_⟩⟩
 have hh:xs=[]:=hh
 rw [hh] at h0
 exact absurd h0 (by simp)
end Go.Proofs.YtjlaenglmdpboaaGreat.V4
namespace Go.Proofs.YtjlaenglmdpboaaGreat.V5
open Go Go.Im Go.Im.Limbs Go.Im.Lexing Go.Im.Arrays Go.Proofs Go.RowKit Hd N1 N10 N13 N15 N16 N17 N18 N19 N20 V3 V4
set_option maxRecDepth 100000
theorem textL_at (l:List Int) (j:Nat):textL (l.drop j)=match l[j]? with
  | none=>[]
  | some c=>if c=39 then (if l[j+1]? =some 39 then 39::textL (l.drop (j+2)) else []) else c::textL (l.drop (j+1)):=by
 cases hc:l[j]? with
 | none =>
   rw [List.drop_of_length_le (by simpa using hc)]
   rfl
 | some c =>
   have hj:=(List.getElem?_eq_some_iff.1 hc).1
   have e1:l.drop j=c::l.drop (j+1):=by
    rw [List.drop_eq_getElem_cons hj,(List.getElem?_eq_some_iff.1 hc).2]
   rw [e1]
   simp only
   by_cases h39:c=39
   ·subst h39
    rw [if_pos rfl]
    cases hd:l[j+1]? with
    | none =>
      rw [List.drop_of_length_le (by simpa using hd)]
      rfl
    | some d =>
      have hj2:=(List.getElem?_eq_some_iff.1 hd).1
      have e2:l.drop (j+1)=d::l.drop (j+2):=by
       rw [List.drop_eq_getElem_cons hj2,(List.getElem?_eq_some_iff.1 hd).2]
      rw [e2]
      by_cases h39':d=39
      ·subst h39'
       rw [if_pos rfl]
       rfl
      ·rw [if_neg (by simpa using h39'),textL]
       intro s hs
       simp only [List.cons.injEq] at hs
       exact h39' hs.1
   ·rw [if_neg h39,textL]
    ·intro s hs _
     exact h39 hs
    ·exact h39
theorem word_val {h0 h:Heap} (x:Ext h0 h) {l:List Int} {tv:Value} (t:Tx h0 tv l) (hne:l≠[]) (hm:l.length≤512) {xb at' i k:Nat} {xs:List XT} (L:LV l h0.size h xb tv at' xs) (hk1:k≠1) (hi':i≤l.length) (hat:at'≤i) :
  Does K h0.size 70 #[.pointer (some ⟨xb,0,none⟩),.int .i64 (i:Int),.int .i64 (k:Int)] h fun v h'=>(wordS k (l.drop i)=none∧v= .bool false) ∨
   ∃ tk m rest,wordS k (l.drop i)=some (tk,m)∧v= .bool true∧at' < i+m∧i+m≤l.length∧LV l h0.size h' xb tv (i+m) (xs++[((at',tk),rest)]):=by
 have t':=t
 rcases t with ⟨hh,_⟩ | ⟨b,o,cs,rfl,hb,hgb,hol,hcs⟩
 ·exact absurd hh hne
 have L':=L
 obtain ⟨hl,hxb,hbd,hall,ov,hg,own,hv⟩:=L
 obtain ⟨w,hw⟩:∃ w,w=(l.drop i).takeWhile isW:=⟨_,rfl⟩
 have hwl:i+w.length≤l.length:=by
  have:=tw_le (p:=isW) (l.drop i)
  rw [List.length_drop] at this
  rw [hw]
  omega
 have hcut:(l.drop i).take (i+w.length - i)=w:=by
  rw [Nat.add_sub_cancel_left,hw]
  exact tw_take _
 refine Does.intro rfl (by decide +kernel) Tryz.func70 rfl ?_
 have k1:=x.1
 simp +decide only [go_sem,WR,WS]
 refine W_loop (α:=Nat) (fun j e w'=>j≤w.length∧e.size=50∧Ext h w'∧e.get 0= .pointer (some ⟨xb,0,none⟩)∧e.get 1= .int .i64 (i:Int)∧e.get 2= .int .i64 (k:Int)∧e.get 7= .int .i64 ((i+j:Nat):Int)) (fun j=>w.length - j) 0 ?_ ?_
 ·exact ⟨Nat.zero_le _,by simp +decide only [go_sem],Ext.refl h,by simp +decide only [go_sem],by simp +decide only [go_sem],by simp +decide only [go_sem],by simp +decide only [go_sem]⟩
 ·rintro j e w' ⟨hj,hsz,hxw,e0,e1,e2,e7⟩ next
  have x0w:=x.trans hxw
  have hgw:w'.get xb=_:=(hxw.2 _ hxb).trans hg
  by_cases hjl:j < w.length
  ·obtain ⟨y,hy,hwy⟩:=tw_lt (p:=isW) (l:=l.drop i) (k:=j) (by rw [← hw];exact hjl)
   rw [List.getElem?_drop] at hy
   have hil:=(List.getElem?_eq_some_iff.1 hy).1
   have hil':((i+j:Nat):Int) < ((l.length:Nat):Int):=by omega
   have i0:(0:Int)≤((i+j:Nat):Int):=by omega
   have i1:IntKind.i64.wrap (((i+j:Nat):Int)+1)=((i+(j+1):Nat):Int):=by rw [wrap_i64 (by omega) (by omega)];omega
   obtain ⟨b',o',cs',q1,q2,q3,q4⟩:=(t'.ext x0w).one hy
   cases q1
   simp +decide only [go_sem,WR,WS,hsz,e0,e1,e2,e7,hgw,hil',i0,Int.toNat_natCast,Nat.mul_one,q3,q4]
   refine W_call Kok x0w.1 (word_run y w') fun r w2 x2 hr=> ?_
   subst hr
   simp +decide only [go_sem,WR,WS,hsz,e0,e1,e2,e7,hwy,i1]
   exact next (j+1) _ _ ⟨by omega,by simp +decide only [go_sem,hsz],hxw.trans x2,by simp +decide only [go_sem,hsz,e0],by simp +decide only [go_sem,hsz,e1],by simp +decide only [go_sem,hsz,e2],by simp +decide only [go_sem,hsz]⟩ (by omega)
  ·have hjw:j=w.length:=by omega
   subst hjw
   apply W_join (α:=Unit) (fun _ e w'=>e.size=50∧Ext h w'∧e.get 0= .pointer (some ⟨xb,0,none⟩)∧e.get 1= .int .i64 (i:Int)∧e.get 2= .int .i64 (k:Int)∧e.get 7= .int .i64 ((i+w.length:Nat):Int))
   ·intro cont
    by_cases hil:((i+w.length:Nat):Int) < ((l.length:Nat):Int)
    case neg =>
     simp +decide only [go_sem,WR,hsz,e0,e1,e2,e7,hgw,hil]
     exact WS.2 (cont () _ _ ⟨by simp +decide only [go_sem,hsz],hxw,by simp +decide only [go_sem,hsz,e0],by simp +decide only [go_sem,hsz,e1],by simp +decide only [go_sem,hsz,e2],by simp +decide only [go_sem,hsz,e7]⟩)
    obtain ⟨y,hy⟩:∃ y,l[i+w.length]? =some y:=⟨_,List.getElem?_eq_getElem (by omega)⟩
    have hwy:isW y=false:=by
     refine tw_end (l:=l.drop i) ?_
     rw [List.getElem?_drop,← hw]
     exact hy
    have i0:(0:Int)≤((i+w.length:Nat):Int):=by omega
    obtain ⟨b',o',cs',q1,q2,q3,q4⟩:=(t'.ext x0w).one hy
    cases q1
    simp +decide only [go_sem,WR,hsz,e0,e1,e2,e7,hgw,hil,i0,Int.toNat_natCast,Nat.mul_one,q3,q4]
    refine W_call Kok x0w.1 (word_run y w') fun r w2 x2 hr=> ?_
    subst hr
    simp +decide only [go_sem,WR,hsz,e0,e1,e2,e7,hwy]
    exact WS.2 (cont () _ _ ⟨by simp +decide only [go_sem,hsz],hxw.trans x2,by simp +decide only [go_sem,hsz,e0],by simp +decide only [go_sem,hsz,e1],by simp +decide only [go_sem,hsz,e2],by simp +decide only [go_sem,hsz,e7]⟩)
   rintro _ e w' ⟨hsz,hxw,e0,e1,e2,e7⟩
   have x0w:=x.trans hxw
   have hgw:w'.get xb=_:=(hxw.2 _ hxb).trans hg
   obtain ⟨a',c1,c2,c3⟩:=(t'.ext x0w).cut hne (lo:=i) (hi:=i+w.length) (by omega) hwl
   rw [hcut] at c2 c3
   simp +decide only [go_sem,WR,WS,hsz,e0,e1,e2,e7,hgw,c1]
   refine W_call Kok x0w.1 (name_run w w' c2 (by omega)) fun r w2 x2 hr=> ?_
   subst hr
   have x02:=x0w.trans x2
   have hgw2:w2.get xb=_:=((hxw.trans x2).2 _ hxb).trans hg
   cases hn:nameOK w with
   | false =>
     simp +decide only [go_sem,WR,WS,hsz,e0,e1,e2,e7]
     simp only [wordS,← hw,hn]
     simp
   | true =>
     have hw1:=nameOK_len hn
     obtain ⟨a2,d1,d2,d3⟩:=(t'.ext x02).cut hne (lo:=i) (hi:=i+w.length) (by omega) hwl
     rw [hcut] at d2 d3
     simp +decide only [go_sem,WR,WS,hsz,e0,e1,e2,e7,hgw2,d1,d3,icvs_rv]
     refine W_does rfl (add_val x02 (L'.ext (hxw.trans x2)) ⟨k,w,0⟩ (upto:=i+w.length) (by omega) (by omega) ⟨⟨_,_,_,_,_,_,_,_,_,_,_,rfl⟩,fun hh=>absurd hh hk1⟩) fun r w3 hr=> ?_
     obtain ⟨rfl,hL⟩:=hr
     simp +decide only [go_sem,WR,WS,hsz]
     exact .inr ⟨_,_,_,by simp only [wordS,← hw,hn,if_true],by omega,hwl,hL⟩
theorem text_val {h0 h:Heap} (x:Ext h0 h) {l:List Int} {tv:Value} (t:Tx h0 tv l) (hm:l.length≤512) {xb at':Nat} {xs:List XT} (L:LV l h0.size h xb tv at' xs) (hnb:begins (l.drop at')=false) (hat:at' < l.length) :
  Does K h0.size 71 #[.pointer (some ⟨xb,0,none⟩)] h fun v h'=>(textF (l.drop (at'+1))=none∧v= .bool false) ∨
   ∃ m rest,textF (l.drop (at'+1))=some m∧v= .bool true∧at' < at'+1+m∧at'+1+m≤l.length∧LV l h0.size h' xb tv (at'+1+m) (xs++[((at',⟨1,[],0⟩),rest)]):=by
 have t':=t
 rcases t with ⟨rfl,_⟩ | ⟨b,o,cs,rfl,hb,hgb,hol,hcs⟩
 ·simp at hat
 have L':=L
 obtain ⟨hl,hxb,hbd,hall,ov,hg,own,hv⟩:=L
 refine Does.intro rfl (by decide +kernel) Tryz.func71 rfl ?_
 have k1:=x.1
 have i1:IntKind.i64.wrap ((at':Int)+1)=((at'+1:Nat):Int):=by rw [wrap_i64 (by omega) (by omega)];omega
 simp +decide only [go_sem,WR,WS,hg,i1]
 refine W_loop (α:=Nat × List Int × Value) (fun k e w=>at'+1≤k.1∧k.1≤l.length∧textF (l.drop (at'+1))=(textF (l.drop k.1)).map (·+(k.1 - (at'+1)))∧textL (l.drop (at'+1))=k.2.1++textL (l.drop k.1)∧e.size=83∧Ext h w∧e.get 0= .pointer (some ⟨xb,0,none⟩)∧e.get 3=k.2.2∧e.get 4= .int .i64 (k.1:Int)∧Own h.size w 1 k.2.2 k.2.1.length (rv k.2.1)∧k.2.1.length≤k.1) (fun k=>l.length - k.1) (at'+1,[],.slice none 0 0) ?_ ?_
 ·refine ⟨Nat.le_refl _,hat,?_,rfl,by simp +decide only [go_sem],Ext.refl h,by simp +decide only [go_sem],by simp +decide only [go_sem],by simp +decide only [go_sem],Own.nil _ _ _,by simp⟩
  simp
 ·rintro ⟨p,ss,sv⟩ e w ⟨hp1,hp2,htx,htl,hsz,hxw,e0,e3,e4,owns,hss⟩ next
  simp only at hp1 hp2 htx htl e3 e4 owns hss
  have x0w:=x.trans hxw
  have hgw:w.get xb=_:=(hxw.2 _ hxb).trans hg
  rw [textF_at l p] at htx
  rw [textL_at l p] at htl
  by_cases hpl:(p:Int) < ((l.length:Nat):Int)
  case neg =>
   rw [List.getElem?_eq_none (by omega)] at htx
   simp +decide only [go_sem,WR,WS,hsz,e0,e3,e4,hgw,hpl]
   simp [htx]
  obtain ⟨y,hy⟩:∃ y,l[p]? =some y:=⟨_,List.getElem?_eq_getElem (by omega)⟩
  rw [hy] at htx htl
  simp only at htx htl
  have i0:(0:Int)≤(p:Int):=by omega
  have i2:IntKind.i64.wrap ((p:Int)+1)=((p+1:Nat):Int):=by rw [wrap_i64 (by omega) (by omega)];omega
  have i3:IntKind.i64.wrap ((p:Int)+2)=((p+2:Nat):Int):=by rw [wrap_i64 (by omega) (by omega)];omega
  obtain ⟨b',o',cs',q1,q2,q3,q4⟩:=(t'.ext x0w).one hy
  cases q1
  by_cases h39:y=39
  case neg =>
   rw [if_neg h39] at htx htl
   obtain ⟨w1,e1',x1,hs1,g1⟩:=lay1 w (.cells [.int .i32 y] 1)
   have hgw1:w1.get xb=_:=(x1.2 _ (Nat.lt_of_lt_of_le hxb hxw.1)).trans hgw
   obtain ⟨w2,e2',own2,hs2,x2⟩:=own_app2 (bytes:=4) (k:=1) (new:=[.int .i32 y]) k1 (hxw.trans x1) (owns.ext x1) (by omega) (by omega) rfl (by omega) (by omega)
   simp +decide only [go_sem,WR,WS,hsz,e0,e3,e4,hgw,hpl,i0,Int.toNat_natCast,Nat.mul_one,q3,q4,h39,e1',g1,e2',i2]
   refine next (p+1,ss++[y],_) _ _ ⟨by simp only;omega,by simp only;omega,?_,by rw [htl];simp,by simp +decide only [go_sem,hsz],x2,by simp +decide only [go_sem,hsz,e0],by simp +decide only [go_sem,hsz];rfl,by simp +decide only [go_sem,hsz],by rw [rv_append,List.length_append];exact own2,by simp;omega⟩ (by simp only;omega)
   rw [htx]
   simp only [Option.map_map]
   congr 1
   funext z
   simp
   omega
  subst h39
  rw [if_pos rfl] at htx htl
  by_cases hp2':l[p+1]? =some 39
  ·rw [if_pos hp2'] at htx htl
   have hp3:=(List.getElem?_eq_some_iff.1 hp2').1
   have hpl2:((p+1:Nat):Int) < ((l.length:Nat):Int):=by omega
   obtain ⟨b2,o2,cs2,p1,p2,p3,p4⟩:=(t'.ext x0w).one hp2'
   cases p1
   rw [q3] at p3
   cases p3
   have i4:(0:Int)≤((p+1:Nat):Int):=by omega
   obtain ⟨w1,e1',x1,hs1,g1⟩:=lay1 w (.cells [.int .i32 39] 1)
   obtain ⟨w2,e2',own2,hs2,x2⟩:=own_app2 (bytes:=4) (k:=1) (new:=[.int .i32 39]) k1 (hxw.trans x1) (owns.ext x1) (by omega) (by omega) rfl (by omega) (by omega)
   simp +decide only [go_sem,WR,WS,hsz,e0,e3,e4,hgw,hpl,i0,Int.toNat_natCast,Nat.mul_one,q3,q4,p4,i4,hpl2,e1',g1,e2',i2,i3]
   refine next (p+2,ss++[39],_) _ _ ⟨by simp only;omega,by simp only;omega,?_,by rw [htl];simp,by simp +decide only [go_sem,hsz],x2,by simp +decide only [go_sem,hsz,e0],by simp +decide only [go_sem,hsz];rfl,by simp +decide only [go_sem,hsz],by rw [rv_append,List.length_append];exact own2,by simp;omega⟩ (by simp only;omega)
   rw [htx]
   simp only [Option.map_map]
   congr 1
   funext z
   simp
   omega
  rw [if_neg hp2',List.append_nil] at htl
  rw [if_neg hp2'] at htx
  have hval:valAt l at'=textAT ss:=by unfold valAt;rw [hnb,htl];rfl
  have htx':textF (l.drop (at'+1))=some (p - at'):=by
   rw [htx]
   simp
   omega
  have hto:at'+1+(p - at')=p+1:=by omega
  apply W_join (α:=Unit) (fun _ e w'=>e.size=83∧w'=w∧e.get 0= .pointer (some ⟨xb,0,none⟩)∧e.get 3=sv∧e.get 4= .int .i64 (p:Int))
  ·intro cont
   obtain ⟨a,c,rfl⟩:=owns.shape
   by_cases hpl2:((p+1:Nat):Int) < ((l.length:Nat):Int)
   ·obtain ⟨y,hy⟩:∃ y,l[p+1]? =some y:=⟨_,List.getElem?_eq_getElem (by omega)⟩
    obtain ⟨b2,o2,cs2,p1,p2,p3,p4⟩:=(t'.ext x0w).one hy
    cases p1
    rw [q3] at p3
    cases p3
    have hy39:¬ y=39:=fun hh=>hp2' (by rw [hy,hh])
    have i4:(0:Int)≤((p+1:Nat):Int):=by omega
    simp +decide only [go_sem,WS]
    (rw [WR];simp +decide only [go_sem,WS,hsz,e0,e3,e4,hgw,hpl])
    (rw [WR];simp +decide only [go_sem,WS,hsz,e0,e3,e4,hgw,i0,hpl,Int.toNat_natCast,Nat.mul_one,q3,q4])
    (rw [WR];simp +decide only [go_sem,WS,hsz,e0,e3,e4,hgw,hpl,i0,Int.toNat_natCast,Nat.mul_one,q3,q4,p4,i4,hpl2,i2,hy39])
    exact cont () _ _ ⟨by simp +decide only [go_sem,hsz],rfl,by simp +decide only [go_sem,hsz,e0],by simp +decide only [go_sem,hsz,e3],by simp +decide only [go_sem,hsz,e4]⟩
   ·simp +decide only [go_sem,WS]
    (rw [WR];simp +decide only [go_sem,WS,hsz,e0,e3,e4,hgw,hpl])
    (rw [WR];simp +decide only [go_sem,WS,hsz,e0,e3,e4,hgw,i0,hpl,Int.toNat_natCast,Nat.mul_one,q3,q4])
    (rw [WR];simp +decide only [go_sem,WS,hsz,e0,e3,e4,hgw,hpl,i0,Int.toNat_natCast,Nat.mul_one,q3,q4,hpl2,i2])
    exact cont () _ _ ⟨by simp +decide only [go_sem,hsz],rfl,by simp +decide only [go_sem,hsz,e0],by simp +decide only [go_sem,hsz,e3],by simp +decide only [go_sem,hsz,e4]⟩
  rintro _ e w' ⟨hsz,rfl,e0,e3,e4⟩
  rw [htx']
  by_cases h1:ss.length=1
  ·obtain ⟨y,rfl⟩:=List.length_eq_one_iff.1 h1
   rcases owns with ⟨_,h2,_⟩ | ⟨sb,rfl,h2,h3,h4,h5⟩
   ·simp at h2
   have h4':w'.get sb= .cells [.int .i32 y] 1:=h4
   simp +decide only [go_sem,WR,WS,hsz,e0,e3,e4,h4']
   refine W_call Kok x0w.1 (char_val y w') fun r w2 x2 hr=> ?_
   obtain ⟨_,rfl,AGr⟩:=hr
   have AG0:=AGr
   obtain ⟨a,c,a2,c2,a3,c3,qq,rfl,_⟩:=AG0
   simp +decide only [go_sem,WR,WS,hsz,e0,e3,e4,i2]
   refine W_does rfl (add_val (x0w.trans x2) (L'.ext (hxw.trans x2)) ⟨1,[],0⟩ (upto:=p+1) (by omega) (by omega) ⟨⟨_,_,_,_,_,_,_,_,_,_,_,rfl⟩,fun _=>by rw [hval];exact AGr⟩) fun r w3 hr=> ?_
   obtain ⟨rfl,hL⟩:=hr
   simp +decide only [go_sem,WR,WS,hsz]
   exact .inr ⟨_,_,rfl,by omega,by omega,by rw [hto];exact hL⟩
  ·obtain ⟨a,c,rfl⟩:=owns.shape
   have h1':¬ ((ss.length:Nat):Int)=1:=by omega
   simp +decide only [go_sem,WR,WS,hsz,e0,e3,e4,h1']
   refine W_call Kok x0w.1 (V4.text_val w' owns.sl (by omega) h1) fun r w2 x2 hr=> ?_
   obtain ⟨_,rfl,AGr⟩:=hr
   have AG0:=AGr
   obtain ⟨a,c,a2,c2,a3,c3,qq,rfl,_⟩:=AG0
   simp +decide only [go_sem,WR,WS,hsz,e0,e3,e4,i2]
   refine W_does rfl (add_val (x0w.trans x2) (L'.ext (hxw.trans x2)) ⟨1,[],0⟩ (upto:=p+1) (by omega) (by omega) ⟨⟨_,_,_,_,_,_,_,_,_,_,_,rfl⟩,fun _=>by rw [hval];exact AGr⟩) fun r w3 hr=> ?_
   obtain ⟨rfl,hL⟩:=hr
   simp +decide only [go_sem,WR,WS,hsz]
   exact .inr ⟨_,_,rfl,by omega,by omega,by rw [hto];exact hL⟩
end Go.Proofs.YtjlaenglmdpboaaGreat.V5
namespace Go.Proofs.YtjlaenglmdpboaaGreat.V6
open Go Go.Im Go.Im.Limbs Go.Im.Lexing Go.Im.Arrays Go.Proofs Go.RowKit Hd N1 N10 N13 N15 N16 N17 N18 N19 N22 V2 V3 V4
set_option maxRecDepth 100000
theorem nums_of (h:Heap) {b n:Nat} {v:Value} {qs:List (List Value)} {xs:List R3} (e:n=xs.length) (hg:h.get b= .cells [.int .i64 (n:Int)] 1) (hb:b < h.size) (h0:0 < n) (h1:n≠1) (hn:n≤4096) {a:Option Addr} {c:Nat} (s:Sl h 3 a n c qs.flatten) (R:RatsV h qs xs) :
  Runs K 91 #[.slice (some ⟨b,0,none⟩) 1 1,.slice a n c] h fun r w=>∃ l m,r= .tuple #[.agg l.toArray,.bool m]∧AG w l (numsAT xs):=by
 subst e
 exact nums_val (v:=v) h hg hb h0 h1 hn s R
set_option maxHeartbeats 4000000 in
theorem numbers_val {h0 h:Heap} (x:Ext h0 h) {l:List Int} {tv:Value} (t:Tx h0 tv l) (hm:l.length≤512) {xb at':Nat} {xs:List XT} (L:LV l h0.size h xb tv at' xs) (hat:at' < l.length) (hbg:begins (l.drop at')=true) :
  Does K h0.size 69 #[.pointer (some ⟨xb,0,none⟩)] h fun v h'=>(numsF 600 (l.drop at')=none∧v= .bool false) ∨
   ∃ n m rest,numsF 600 (l.drop at')=some (n,m)∧v= .bool true∧at' < at'+m∧at'+m≤l.length∧LV l h0.size h' xb tv (at'+m) (xs++[((at',⟨1,[],0⟩),rest)]):=by
 have t':=t
 rcases t with ⟨rfl,_⟩ | ⟨b,o,cs,rfl,hb,hgb,hol,hcs⟩
 ·simp at hat
 have hne:l≠[]:=by
  rintro rfl
  simp at hat
 have L':=L
 obtain ⟨hl,hxb,hbd,hall,ov,hg,own,hv⟩:=L
 refine Does.intro rfl (by decide +kernel) Tryz.func69 rfl ?_
 have k1:=x.1
 simp +decide only [go_sem,WR,WS,hg]
 refine W_loop (α:=Nat × Nat × Nat × List (List Value) × Value) (fun k e w=>at'≤k.2.1∧k.2.1≤k.1∧k.1≤l.length∧numsF 600 (l.drop at')=(numsF k.2.2.1 (l.drop k.1)).map (addN at' k.2.2.2.1.length k.2.1 k.1)∧513≤k.2.2.1+k.1∧e.size=86∧Ext h w∧e.get 0= .pointer (some ⟨xb,0,none⟩)∧e.get 3=k.2.2.2.2∧e.get 4= .int .i64 (k.1:Int)∧e.get 5= .int .i64 (k.2.1:Int) ∧
  Own h.size w 3 k.2.2.2.2 k.2.2.2.1.length k.2.2.2.1.flatten∧k.2.2.2.1.length≤k.1∧(∀ q ∈ k.2.2.2.1,RatS q)∧(∃ ds,numsL 600 (l.drop at')=ds++numsL k.2.2.1 (l.drop k.1)∧RatsV w k.2.2.2.1 ds)∧(k.2.2.2.1.length=0→k.1=at')∧(0 < k.2.2.2.1.length→at' < k.2.1)) (fun k=>l.length - k.1) (at',at',600,[],.slice none 0 0) ?_ ?_
 ·refine ⟨Nat.le_refl _,Nat.le_refl _,by omega,?_,by simp only;omega,by simp +decide only [go_sem],Ext.refl h,by simp +decide only [go_sem],by simp +decide only [go_sem],by simp +decide only [go_sem],by simp +decide only [go_sem],Own.nil _ _ _,by simp,by simp,⟨[],rfl,trivial⟩,by simp,by simp⟩
  simp only [List.length_nil]
  cases hq:numsF 600 (l.drop at') with
  | none=>rfl
  | some r =>
    obtain ⟨n,m⟩:=r
    simp only [Option.map_some,addN,Nat.sub_self,Nat.zero_add,Option.some.injEq]
    split
    ·rename_i h0'
     have h0':n=0:=h0'
     subst h0'
     exact absurd hq (numsF_pos (f:=599) hbg)
    ·rfl
 ·rintro ⟨p,upto,f,qs,sv⟩ e w ⟨hp1,hp2,hp3,hnm,hf,hsz,hxw,e0,e3,e4,e5,owns,hqs,hrs,⟨ds,hds,hRs⟩,hz,hpos⟩ next
  simp only at hp1 hp2 hp3 hnm hf e3 e4 e5 owns hqs hrs hz hpos hds hRs
  have x0w:=x.trans hxw
  have hgw:w.get xb=_:=(hxw.2 _ hxb).trans hg
  obtain ⟨g,rfl⟩:∃ g,f=g+1:=⟨f - 1,by omega⟩
  cases hbp:begins (l.drop p) with
  | false =>
    have hn:numsF (g+1) (l.drop p)=some (0,0):=by rw [numsF_succ,hbp];rfl
    rw [hn] at hnm
    simp only [Option.map_some,addN,if_true] at hnm
    have hq0:0 < qs.length:=by
     refine Nat.pos_of_ne_zero fun hh=> ?_
     have:=hz hh
     subst this
     rw [hbg] at hbp
     cases hbp
    have hto:=hpos hq0
    have htl:at'+(upto - at')=upto:=by omega
    rw [hnm]
    have hL0:numsL (g+1) (l.drop p)=[]:=by simp [numsL,hbp]
    rw [hL0,List.append_nil] at hds
    have hval:valAt l at'=numsAT ds:=by unfold valAt;rw [hbg,hds];rfl
    have hql:=hRs.len
    simp +decide only [go_sem,WR,WS,hsz,e0,e3,e4,e5,hgw]
    refine W_call Kok x0w.1 (begins_run l p w (t'.ext x0w) (by omega) hp3) fun r w1 x1 hr=> ?_
    rw [hbp] at hr
    subst hr
    have x01:=x0w.trans x1
    have owns1:=owns.ext x1
    obtain ⟨a,c,rfl⟩:=owns.shape
    by_cases h1:qs.length=1
    ·obtain ⟨q,rfl⟩:=List.length_eq_one_iff.1 h1
     rcases owns1 with ⟨_,h2,_⟩ | ⟨sb,h2,h3,h4,h5,h6⟩
     ·simp at h2
     cases h2
     have hq:=hrs q (by simp)
     obtain ⟨y,rfl⟩:∃ y,ds=[y]:=List.length_eq_one_iff.1 (by rw [← hql];rfl)
     have hq3:Rat3 w1 q y:=by
      obtain ⟨p',r',g1,g2,g3⟩:=hRs.1
      exact ⟨p',r',g1,g2.ext x1,g3.ext x1⟩
     have hq':=hq
     obtain ⟨aa,na,ca,ba,ab,nb,cb,rfl⟩:=hq'
     have h5':w1.get sb= .cells [.slice aa na ca,.bool ba,.slice ab nb cb] 3:=h5
     simp +decide only [go_sem,WR,WS,hsz,e0,e3,e4,e5,h5']
     refine W_call Kok x01.1 (num_val w1 hq3) fun r w2 x2 hr=> ?_
     obtain ⟨_,rfl,AGr⟩:=hr
     have AG0:=AGr
     obtain ⟨a,c,a2,c2,a3,c3,qq,rfl,_⟩:=AG0
     simp +decide only [go_sem,WR,WS,hsz,e0,e3,e4,e5]
     refine W_does rfl (add_val (x01.trans x2) (L'.ext (hxw.trans (x1.trans x2))) ⟨1,[],0⟩ (upto:=upto) (by omega) (by omega) ⟨⟨_,_,_,_,_,_,_,_,_,_,_,rfl⟩,fun _=>by rw [hval];exact AGr⟩) fun r w3 hr=> ?_
     obtain ⟨rfl,hL⟩:=hr
     simp +decide only [go_sem,WR,WS,hsz]
     exact .inr ⟨_,_,_,rfl,by omega,by omega,by rw [htl];exact hL⟩
    ·have h1':¬ ((qs.length:Nat):Int)=1:=by omega
     obtain ⟨w2,e2',x2,hs2,g2⟩:=lay1 w1 (.cells [.int .i64 ((qs.length:Nat):Int)] 1)
     simp +decide only [go_sem,WR,WS,hsz,e0,e3,e4,e5,h1',e2']
     refine W_call Kok (x01.trans x2).1 (nums_of (v:= .bool true) w2 hql g2 (by omega) hq0 h1 (by omega) (owns1.ext x2).sl (hRs.mono fun q x ⟨p',r',g1,g2,g3⟩=>⟨p',r',g1,g2.ext (x1.trans x2),g3.ext (x1.trans x2)⟩)) fun r w3 x3 hr=> ?_
     obtain ⟨_,m0,rfl,AGr⟩:=hr
     have AG0:=AGr
     obtain ⟨a,c,a2,c2,a3,c3,qq,rfl,_⟩:=AG0
     have x03:=x01.trans (x2.trans x3)
     obtain ⟨w4,e4',x4,hs4,g4⟩:=lay1 w3 (.cells [.slice none 0 0,.bool false,.slice none 0 0,.slice none 0 0,.bool false] 5)
     obtain ⟨w5,e5',x5,hs5,g5,k5⟩:=put1 x4 (Nat.le_refl _) (.cells [.slice a (numsAT ds).shape.length c,.bool (numsAT ds).ch,.slice a2 (numsAT ds).tx.length c2,.slice a3 (numsAT ds).nums.length c3,.bool true] 5)
     simp +decide only [go_sem,WR,WS,hsz,e0,e3,e4,e5,e4',g4,x03.1,e5',g5]
     refine W_does rfl (add_val (x03.trans x5) (L'.ext (hxw.trans (x1.trans (x2.trans (x3.trans x5))))) ⟨1,[],0⟩ (upto:=upto) (by omega) (by omega) ⟨⟨_,_,_,_,_,_,_,_,_,_,_,rfl⟩,fun _=>by rw [hval];exact AGr.ext x5⟩) fun r w6 hr=> ?_
     obtain ⟨rfl,hL⟩:=hr
     simp +decide only [go_sem,WR,WS,hsz]
     exact .inr ⟨_,_,_,rfl,by omega,by omega,by rw [htl];exact hL⟩
  | true =>
    have hunf:numsF (g+1) (l.drop p)=match readS (l.drop p) with
     | none=>none
     | some k=>match numsF g (l.drop (p+(k+blanks (l.drop (p+k))))) with
       | none=>none
       | some (0,_)=>some (1,k)
       | some (n+1,m)=>some (n+2,k+blanks (l.drop (p+k))+m):=by
     rw [numsF_succ,hbp,if_pos rfl]
     simp only [List.drop_drop]
     rfl
    have hunL:numsL (g+1) (l.drop p)=match readS (l.drop p) with
     | none=>[]
     | some k=>rat3 (readN (l.drop p))::numsL g (l.drop (p+(k+blanks (l.drop (p+k))))):=by
     rw [numsL,hbp,if_pos rfl]
     simp only [List.drop_drop]
     all_goals (cases readS (l.drop p)<;>rfl)
    simp +decide only [go_sem,WR,WS,hsz,e0,e3,e4,e5,hgw]
    refine W_call Kok x0w.1 (begins_run l p w (t'.ext x0w) (by omega) hp3) fun r w1 x1 hr=> ?_
    rw [hbp] at hr
    subst hr
    have x01:=x0w.trans x1
    have hgw1:w1.get xb=_:=((hxw.trans x1).2 _ hxb).trans hg
    simp +decide only [go_sem,WR,WS,hsz,e0,e3,e4,e5,hgw1]
    refine W_call Kok x01.1 (read_val l p w1 (t'.ext x01) hne hm hp3 hbp) fun r w2 x2 hr=> ?_
    have x02:=x01.trans x2
    have hgw2:w2.get xb=_:=((hxw.trans (x1.trans x2)).2 _ hxb).trans hg
    rcases hr with ⟨hrd,q,y,m,s,d,rfl,hrat⟩ | ⟨k,q,hrd,hk1,hk2,rfl,hrat⟩
    ·obtain ⟨pp,qq,rfl,hp',hq'⟩:=hrat
     obtain ⟨aa,na,ca,rfl⟩:=natv_slice hp'
     obtain ⟨ab,nb,cb,rfl⟩:=natv_slice hq'
     obtain ⟨w4,e4',x4,hs4,g4⟩:=lay1 w2 (.cells [.slice none 0 0,.bool false,.slice none 0 0] 3)
     obtain ⟨w5,e5',x5,hs5,g5,k5⟩:=put1 x4 (Nat.le_refl _) (.cells [.slice aa na ca,.bool s,.slice ab nb cb] 3)
     rw [hunf,hrd] at hnm
     simp only [Option.map_none] at hnm
     simp +decide only [go_sem,WR,WS,hsz,e0,e3,e4,e5,e4',g4,x02.1,e5']
     simp [hnm]
    obtain ⟨s,hs⟩:∃ s,ratS (readN (l.drop p))=s:=⟨_,rfl⟩
    rw [hs] at hrat
    obtain ⟨pp,qq,rfl,hp',hq'⟩:=hrat
    obtain ⟨aa,na,ca,rfl⟩:=natv_slice hp'
    obtain ⟨ab,nb,cb,rfl⟩:=natv_slice hq'
    obtain ⟨w4,e4',x4,hs4,g4⟩:=lay1 w2 (.cells [.slice none 0 0,.bool false,.slice none 0 0] 3)
    obtain ⟨w5,e5',x5,hs5,g5,k5⟩:=put1 x4 (Nat.le_refl _) (.cells [.slice aa na ca,.bool s,.slice ab nb cb] 3)
    obtain ⟨w6,e6',x6,hs6,g6⟩:=lay1 w5 (.cells [.slice aa na ca,.bool s,.slice ab nb cb] 3)
    have xw6:Ext h w6:=hxw.trans (x1.trans (x2.trans (x5.trans x6)))
    obtain ⟨w7,e7',own7,hs7,x7,k7⟩:=app_oth (bytes:=56) (k:=1) (new:=[.slice aa na ca,.bool s,.slice ab nb cb]) k1 xw6 (owns.ext (x1.trans (x2.trans (x5.trans x6)))) (by omega) (by omega) rfl (by omega) (by omega)
    have xq:Ext w w6:=x1.trans (x2.trans (x5.trans x6))
    have fr:Lexing.Fr w6.size sv w6 w7:=⟨by omega,fun b hb _ hv=>k7 b hb hv⟩
    have ap:Apart w6 w6.size sv 3:=⟨⟨_,_,_,owns.ext xq⟩,.inr (Nat.le_refl _)⟩
    have hR7:RatsV w7 (qs++[[.slice aa na ca,.bool s,.slice ab nb cb]]) (ds++[rat3 (readN (l.drop p))]) :=
     RatsV.snoc ⟨_,_,by rw [← hs];rfl,(hp'.ext (x5.trans x6)).fr fr ap (by omega),(hq'.ext (x5.trans x6)).fr fr ap (by omega)⟩
      (hRs.mono fun q x ⟨p',r',g1,g2,g3⟩=>⟨p',r',g1,(g2.ext xq).fr fr ap (by omega),(g3.ext xq).fr fr ap (by omega)⟩)
    have hgw7:w7.get xb=_:=(x7.2 _ hxb).trans hg
    obtain ⟨B,hB⟩:∃ B,B=blanks (l.drop (p+k)):=⟨_,rfl⟩
    have hBl:p+k+B≤l.length:=by rw [hB];exact blanks_len hk1
    rw [hunf,hrd] at hnm
    simp only [← hB] at hnm
    rw [hunL,hrd] at hds
    simp only [← hB] at hds
    simp +decide only [go_sem,WR,WS,hsz,e0,e3,e4,e5,e4',g4,x02.1,e5',g5,e6',g6,e7']
    refine W_loop (α:=Nat) (fun j e w'=>j≤B∧e.size=86∧w'=w7∧e.get 0= .pointer (some ⟨xb,0,none⟩)∧e.get 3= .slice (some ⟨w6.size,0,none⟩) (qs.length+1) big∧e.get 4= .int .i64 ((p+k+j:Nat):Int)∧e.get 5= .int .i64 ((p+k:Nat):Int)) (fun j=>B - j) 0 ?_ ?_
    ·exact ⟨Nat.zero_le _,by simp +decide only [go_sem,hsz],rfl,by simp +decide only [go_sem,hsz,e0],by simp +decide only [go_sem,hsz],by simp +decide only [go_sem,hsz],by simp +decide only [go_sem,hsz]⟩
    ·rintro j e w' ⟨hj,hsz,rfl,e0,e3,e4,e5⟩ next2
     have x07:=x.trans x7
     by_cases hjB:j < B
     ·have hy:=blanks_at (l:=l) (p:=p+k) (j:=j) (by rw [← hB];exact hjB)
      have hil:((p+k+j:Nat):Int) < ((l.length:Nat):Int):=by omega
      have i0:(0:Int)≤((p+k+j:Nat):Int):=by omega
      have i1:IntKind.i64.wrap (((p+k+j:Nat):Int)+1)=((p+k+(j+1):Nat):Int):=by rw [wrap_i64 (by omega) (by omega)];omega
      obtain ⟨b',o',cs',q1,q2,q3,q4⟩:=(t'.ext x07).one hy
      cases q1
      simp +decide only [go_sem,WR,WS,hsz,e0,e3,e4,e5,hgw7,hil,i0,Int.toNat_natCast,Nat.mul_one,q3,q4,i1]
      exact next2 (j+1) _ _ ⟨by omega,by simp +decide only [go_sem,hsz],rfl,by simp +decide only [go_sem,hsz,e0],by simp +decide only [go_sem,hsz,e3],by simp +decide only [go_sem,hsz],by simp +decide only [go_sem,hsz,e5]⟩ (by omega)
     ·have hjB':j=B:=by omega
      subst hjB'
      have fin:∀ e1:Env,e1.size=86→e1.get 0= .pointer (some ⟨xb,0,none⟩)→e1.get 3= .slice (some ⟨w6.size,0,none⟩) (qs.length+1) big→e1.get 4= .int .i64 ((p+k+j:Nat):Int)→e1.get 5= .int .i64 ((p+k:Nat):Int)→_ :=
       fun e1 f1 f2 f3 f4 f5=>next (p+k+j,p+k,g,qs++[[.slice aa na ca,.bool s,.slice ab nb cb]],.slice (some ⟨w6.size,0,none⟩) (qs.length+1) big) e1 w' ⟨by simp only;omega,by simp only;omega,by simp only;omega,by
        rw [hnm]
        simp only
        rw [show p+(k+j)=p+k+j by omega]
        cases numsF g (l.drop (p+k+j)) with
        | none=>rfl
        | some r =>
          obtain ⟨n,m⟩:=r
          cases n with
          | zero=>simp [addN];omega
          | succ n=>simp [addN];omega,by simp only;omega,f1,x7,f2,f3,f4,f5,by
        rw [List.flatten_append,List.length_append]
        exact own7,by simp;omega,by
        intro q hq
        rcases List.mem_append.1 hq with hq | hq
        ·exact hrs q hq
        ·rw [List.mem_singleton] at hq
         exact ⟨_,_,_,_,_,_,_,hq⟩,⟨_,by rw [hds,show p+(k+j)=p+k+j by omega];simp only [List.append_assoc,List.singleton_append],hR7⟩,by simp,fun _=>by simp only;omega⟩ (by simp only;omega)
      by_cases hil:((p+k+j:Nat):Int) < ((l.length:Nat):Int)
      case neg =>
       simp +decide only [go_sem,WR,WS,hsz,e0,e3,e4,e5,hgw7,hil]
       exact fin _ (by simp +decide only [go_sem,hsz]) (by simp +decide only [go_sem,hsz,e0]) (by simp +decide only [go_sem,hsz,e3]) (by simp +decide only [go_sem,hsz,e4]) (by simp +decide only [go_sem,hsz,e5])
      obtain ⟨y,hy⟩:∃ y,l[p+k+j]? =some y:=⟨_,List.getElem?_eq_getElem (by omega)⟩
      have hy32:¬ y=32:=blanks_end (by rw [← hB];exact hy)
      have i0:(0:Int)≤((p+k+j:Nat):Int):=by omega
      obtain ⟨b',o',cs',q1,q2,q3,q4⟩:=(t'.ext x07).one hy
      cases q1
      simp +decide only [go_sem,WR,WS,hsz,e0,e3,e4,e5,hgw7,hil,i0,Int.toNat_natCast,Nat.mul_one,q3,q4,hy32]
      exact fin _ (by simp +decide only [go_sem,hsz]) (by simp +decide only [go_sem,hsz,e0]) (by simp +decide only [go_sem,hsz,e3]) (by simp +decide only [go_sem,hsz,e4]) (by simp +decide only [go_sem,hsz,e5])
end Go.Proofs.YtjlaenglmdpboaaGreat.V6
namespace Go.Proofs.YtjlaenglmdpboaaGreat.V7
open Go Go.Im Go.Im.Limbs Go.Im.Lexing Go.Im.Arrays Go.Proofs Go.RowKit Hd N1 N10 N13 N15 N16 N17 N18 N19 N23 V3 V5 V6
set_option maxRecDepth 100000
def StepV (low:Nat) (xb:Nat) (tv:Value) (l:List Int) (at':Nat) (xs:List XT) (v:Value) (h':Heap):Prop:=(tokS (l.drop at')=none∧v= .bool false)∨(∃ k,tokS (l.drop at')=some (none,k)∧v= .bool true∧at' < at'+k∧at'+k≤l.length∧LV l low h' xb tv (at'+k) xs) ∨
 ∃ tk k rest,tokS (l.drop at')=some (some tk,k)∧v= .bool true∧at' < at'+k∧at'+k≤l.length∧LV l low h' xb tv (at'+k) (xs++[((at',tk),rest)])
set_option maxHeartbeats 4000000 in
theorem next_val {h0 h:Heap} (x:Ext h0 h) {l:List Int} {tv:Value} (t:Tx h0 tv l) (hm:l.length≤512) {xb at':Nat} {xs:List XT} (L:LV l h0.size h xb tv at' xs) (hat:at' < l.length) :
  Does K h0.size 44 #[.pointer (some ⟨xb,0,none⟩)] h fun v h'=>StepV h0.size xb tv l at' xs v h':=by
 have t':=t
 rcases t with ⟨rfl,_⟩ | ⟨b,o,cs,rfl,hb,hgb,hol,hcs⟩
 ·simp at hat
 have hne:l≠[]:=by
  rintro rfl
  simp at hat
 have L':=L
 obtain ⟨hl,hxb,hbd,hall,ov,hg,own,hv⟩:=L
 obtain ⟨c,hc⟩:∃ c,l[at']? =some c:=⟨_,List.getElem?_eq_getElem hat⟩
 have htok:=tokS_at hc
 refine Does.intro rfl (by decide +kernel) Tryz.func44 rfl ?_
 have k1:=x.1
 have i0:(0:Int)≤(at':Int):=by omega
 have i1:IntKind.i64.wrap ((at':Int)+1)=((at'+1:Nat):Int):=by rw [wrap_i64 (by omega) (by omega)];omega
 have il:(at':Int) < ((l.length:Nat):Int):=by omega
 obtain ⟨b',o',cs',q1,q2,q3,q4⟩:=(t'.ext x).one hc
 cases q1
 simp +decide only [go_sem,WR,WS,hg,il,i0,Int.toNat_natCast,Nat.mul_one,q3,q4]
 refine W_call Kok k1 (kind_run c h) fun r w1 x1 hr=> ?_
 subst hr
 have x01:=x.trans x1
 have hg1:w1.get xb=_:=(x1.2 _ hxb).trans hg
 by_cases h1:kindOf c=1
 ·rw [if_pos h1] at htok
  have h1':((kindOf c:Nat):Int)=1:=by omega
  obtain ⟨w2,e2,x2,hs2,g2,k2⟩:=put1 x01 hl (.cells [.slice (some ⟨b,o,none⟩) l.length big,.int .i64 ((at'+1:Nat):Int),ov] 3)
  simp +decide only [go_sem,WR,WS,h1',hg1,i1,hl,e2]
  have fr:Lexing.Fr xb ov w1 w2:=⟨by omega,fun b hb h1 _=>k2 b h1⟩
  have ap:Apart w1 xb ov 9:=⟨⟨_,_,_,own.ext x1⟩,.inl ⟨_,_,_,hg1⟩⟩
  refine .inr (.inl ⟨1,htok,rfl,by omega,by omega,hl,by have:=x1.1;omega,by omega,fun y hy=>((hall y hy).ext x1).fr fr ap,ov,g2,?_,hv⟩)
  refine (own.ext x1).keep (Nat.le_refl _) fun q hq hvq=> ?_
  have:q≠xb:=by
   rintro rfl
   exact hv hvq
  exact ⟨k2 q this,by omega⟩
 rw [if_neg h1] at htok
 have h1':¬ ((kindOf c:Nat):Int)=1:=by omega
 simp +decide only [go_sem,WR,WS,h1',hg1]
 refine W_call Kok x01.1 (begins_run l at' w1 (t'.ext x01) (by omega) (by omega)) fun r w2 x2 hr=> ?_
 subst hr
 have x02:=x01.trans x2
 have x12:=x1.trans x2
 have hg2:w2.get xb=_:=(x12.2 _ hxb).trans hg
 have L2:=L'.ext x12
 cases hbg:begins (l.drop at') with
 | true =>
   rw [if_pos hbg] at htok
   simp +decide only [go_sem,WR,WS]
   refine W_does rfl (numbers_val x02 t' hm L2 hat hbg) fun r w3 hr=> ?_
   simp +decide only [go_sem,WR,WS]
   rcases hr with ⟨hn,rfl⟩ | ⟨n,m,rest,hn,rfl,hm1,hm2,hL⟩
   ·exact .inl ⟨by rw [htok,hn];rfl,rfl⟩
   ·exact .inr (.inr ⟨_,_,_,by rw [htok,hn];rfl,rfl,hm1,hm2,hL⟩)
 | false =>
 rw [if_neg (by rw [hbg];simp)] at htok
 by_cases h2:kindOf c=2
 ·rw [if_pos h2] at htok
  have h2':((kindOf c:Nat):Int)=2:=by omega
  simp +decide only [go_sem,WR,WS,h2',hg2]
  refine W_does rfl (word_val x02 t' hne hm L2 (by decide) (i:=at') (k:=2) (by omega) (Nat.le_refl _)) fun r w3 hr=> ?_
  simp +decide only [go_sem,WR,WS]
  rcases hr with ⟨hn,rfl⟩ | ⟨tk,m,rest,hn,rfl,hm1,hm2,hL⟩
  ·exact .inl ⟨by rw [htok,hn];rfl,rfl⟩
  ·exact .inr (.inr ⟨_,_,_,by rw [htok,hn];rfl,rfl,hm1,hm2,hL⟩)
 rw [if_neg h2] at htok
 have h2':¬ ((kindOf c:Nat):Int)=2:=by omega
 by_cases h39:c=39
 ·rw [if_pos h39] at htok
  simp +decide only [go_sem,WR,WS,h2',h39]
  refine W_does rfl (V5.text_val x02 t' hm L2 hbg hat) fun r w3 hr=> ?_
  simp +decide only [go_sem,WR,WS]
  rcases hr with ⟨hn,rfl⟩ | ⟨m,rest,hn,rfl,hm1,hm2,hL⟩
  ·exact .inl ⟨by rw [htok,hn];rfl,rfl⟩
  ·exact .inr (.inr ⟨_,1+m,_,by rw [htok,hn];rfl,rfl,by omega,by omega,by rw [← Nat.add_assoc];exact hL⟩)
 rw [if_neg h39] at htok
 simp +decide only [go_sem,WS,h2',h39]
 (rw [WR];simp +decide only [go_sem,WS,h2',h39])
 (rw [WR];simp +decide only [go_sem,WS,h2',h39])
 refine W_cut (J:=fun e w=>e.size=131∧e.get 0= .pointer (some ⟨xb,0,none⟩)∧e.get 3= .int .i32 c∧e.get 4= .int .i64 ((kindOf c:Nat):Int)∧e.get 53= .bool (quadS l at' c)∧Ext h w) (by simp only [straight,KD];rfl) ?_ ?_
 ·by_cases hq:c=9109
  case neg =>
   have:quadS l at' c=false:=by simp [quadS,hq]
   simp +decide only [go_sem,WR,WS,hq,this]
   exact x12
  by_cases hl2:((at'+1:Nat):Int) < ((l.length:Nat):Int)
  case neg =>
   have:quadS l at' c=false:=by
    unfold quadS
    rw [List.getElem?_eq_none (by omega)]
    simp
   simp +decide only [go_sem,WR,WS,hq,hg2,i1,hl2]
   rw [hq] at this
   exact ⟨by rw [this],x12⟩
  obtain ⟨d,hd⟩:∃ d,l[at'+1]? =some d:=⟨_,List.getElem?_eq_getElem (by omega)⟩
  have hqd:quadS l at' c=decide (kindOf d=2):=by simp [quadS,hq,hd]
  have i2:(0:Int)≤((at'+1:Nat):Int):=by omega
  obtain ⟨b2,o2,cs2,p1,p2,p3,p4⟩:=(t'.ext x02).one hd
  cases p1
  simp +decide only [go_sem,WR,WS,hq,hg2,i1,i2,hl2,Int.toNat_natCast,Nat.mul_one,p3,p4]
  refine W_call Kok x02.1 (kind_run d w2) fun r w3 x3 hr=> ?_
  subst hr
  rw [hq] at hqd
  by_cases hk:kindOf d=2
  ·have hk':((kindOf d:Nat):Int)=2:=by omega
   simp +decide only [go_sem,WR,WS,hk']
   exact ⟨by rw [hqd,hk];rfl,x12.trans x3⟩
  ·have hk':¬ ((kindOf d:Nat):Int)=2:=by omega
   simp +decide only [go_sem,WR,WS,hk']
   exact ⟨by rw [hqd];simp [hk],x12.trans x3⟩
 rintro e w ⟨hsz,e0,e3,e4,e53,hxw⟩
 have x0w:=x.trans hxw
 have hgw:w.get xb=_:=(hxw.2 _ hxb).trans hg
 have Lw:=L'.ext hxw
 cases hqd:quadS l at' c with
 | true =>
   rw [hqd] at e53
   rw [if_pos hqd] at htok
   have hlt:at'+1≤l.length:=hat
   simp +decide only [go_sem,WR,WS,hsz,e0,e3,e4,e53,hgw,i1]
   refine W_does rfl (word_val x0w t' hne hm Lw (by decide) (i:=at'+1) (k:=3) hlt (by omega)) fun r w3 hr=> ?_
   simp +decide only [go_sem,WR,WS,hsz]
   rcases hr with ⟨hn,rfl⟩ | ⟨tk,m,rest,hn,rfl,hm1,hm2,hL⟩
   ·exact .inl ⟨by rw [htok,hn];rfl,rfl⟩
   ·exact .inr (.inr ⟨_,1+m,_,by rw [htok,hn];rfl,rfl,by omega,by omega,by rw [← Nat.add_assoc];exact hL⟩)
 | false =>
 rw [hqd] at e53
 rw [if_neg (by rw [hqd];simp)] at htok
 have fin:∀ {k:Nat} {w':Heap} {r:Value},tokS (l.drop at')=some (some ⟨k,[],c⟩,1)→(r= .bool true∧LV l h0.size w' xb (.slice (some ⟨b,o,none⟩) l.length big) (at'+1) (xs++[((at',⟨k,[],c⟩),[.slice none 0 0,.bool false,.slice none 0 0,.slice none 0 0,.bool false])]))→StepV h0.size xb (.slice (some ⟨b,o,none⟩) l.length big) l at' xs r w' :=
  fun ht ⟨h1,h2⟩=> .inr (.inr ⟨_,1,_,ht,h1,by omega,by omega,h2⟩)
 by_cases h4:kindOf c=4
 ·rw [if_pos (.inl h4)] at htok
  have h4':((kindOf c:Nat):Int)=4:=by omega
  simp +decide only [go_sem,WR,WS,hsz,e0,e3,e4,e53,hgw,i1,h4']
  refine W_does rfl (add_val x0w Lw ⟨4,[],c⟩ (upto:=at'+1) (by omega) (by omega) ⟨⟨_,_,_,_,_,_,_,_,_,_,_,rfl⟩,fun hh=>absurd (show (4:Nat)=1 from hh) (by decide)⟩) fun r w3 hr=> ?_
  simp +decide only [go_sem,WR,WS,hsz]
  exact fin htok hr
 have h4':¬ ((kindOf c:Nat):Int)=4:=by omega
 by_cases h5:kindOf c=5
 ·rw [if_pos (.inr h5)] at htok
  have h5':((kindOf c:Nat):Int)=5:=by omega
  simp +decide only [go_sem,WR,WS,hsz,e0,e3,e4,e53,hgw,i1,h5']
  refine W_does rfl (add_val x0w Lw ⟨4,[],c⟩ (upto:=at'+1) (by omega) (by omega) ⟨⟨_,_,_,_,_,_,_,_,_,_,_,rfl⟩,fun hh=>absurd (show (4:Nat)=1 from hh) (by decide)⟩) fun r w3 hr=> ?_
  simp +decide only [go_sem,WR,WS,hsz]
  exact fin htok hr
 have h5':¬ ((kindOf c:Nat):Int)=5:=by omega
 rw [if_neg (by rintro (hh | hh);exact h4 hh;exact h5 hh)] at htok
 by_cases h6:kindOf c=6
 ·rw [if_pos h6] at htok
  have h6':((kindOf c:Nat):Int)=6:=by omega
  simp +decide only [go_sem,WR,WS,hsz,e0,e3,e4,e53,hgw,i1,h6']
  refine W_does rfl (add_val x0w Lw ⟨5,[],c⟩ (upto:=at'+1) (by omega) (by omega) ⟨⟨_,_,_,_,_,_,_,_,_,_,_,rfl⟩,fun hh=>absurd (show (5:Nat)=1 from hh) (by decide)⟩) fun r w3 hr=> ?_
  simp +decide only [go_sem,WR,WS,hsz]
  exact fin htok hr
 have h6':¬ ((kindOf c:Nat):Int)=6:=by omega
 rw [if_neg h6] at htok
 by_cases h7:kindOf c=7
 ·rw [if_pos h7] at htok
  have h7':((kindOf c:Nat):Int)=7:=by omega
  simp +decide only [go_sem,WR,WS,hsz,e0,e3,e4,e53,hgw,i1,h7']
  refine W_does rfl (add_val x0w Lw ⟨6,[],c⟩ (upto:=at'+1) (by omega) (by omega) ⟨⟨_,_,_,_,_,_,_,_,_,_,_,rfl⟩,fun hh=>absurd (show (6:Nat)=1 from hh) (by decide)⟩) fun r w3 hr=> ?_
  simp +decide only [go_sem,WR,WS,hsz]
  exact fin htok hr
 have h7':¬ ((kindOf c:Nat):Int)=7:=by omega
 rw [if_neg h7] at htok
 simp +decide only [go_sem,WR,WS,hsz,e0,e3,e4,e53,hgw,i1,h4',h5',h6',h7']
 exact .inl ⟨htok,rfl⟩
theorem lex_val (h:Heap) {l:List Int} {tv:Value} (t:Tx h tv l) :
  Runs K 9 #[tv] h fun r w=>(lex l=none∧r= .tuple #[.slice none 0 0,.bool false]) ∨
   ∃ (xs:List XT) (a:Option Addr) (c:Nat),lex l=some (xs.map (·.1))∧(∀ x ∈ xs,TV l w x)∧xs.length≤l.length∧r= .tuple #[.slice a xs.length c,.bool true]∧Sl w 9 a xs.length c (xcs xs):=by
 obtain ⟨a,c,rfl⟩:=t.open
 refine Runs.of Kok (Does.intro rfl (by decide +kernel) Tryz.func9 rfl ?_)
 by_cases h512:(512:Int) < ((l.length:Nat):Int)
 ·have:lex l=none:=by
   unfold lex
   rw [if_pos (by omega)]
  simp +decide only [go_sem,WR,WS,h512]
  simp [this]
 have hl512:¬ 512 < l.length:=by omega
 obtain ⟨w1,e1,x1,hs1,g1⟩:=lay1 h (.cells [.slice a l.length c,.int .i64 0,.slice none 0 0] 3)
 have hk1:h.size≤w1.size:=x1.1
 simp +decide only [go_sem,WR,WS,h512,e1]
 refine W_loop (α:=Nat × Nat × List XT) (fun k e w=>k.1≤l.length∧lex l=(lexF k.2.1 k.1 (l.drop k.1)).map (k.2.2.map (·.1)++·)∧513≤k.2.1+k.1∧e.size=35∧Ext h w∧e.get 0= .slice a l.length c∧e.get 4= .pointer (some ⟨h.size,0,none⟩)∧LV l h.size w h.size (.slice a l.length c) k.1 k.2.2) (fun k=>l.length - k.1) (0,600,[]) ?_ ?_
 ·refine ⟨Nat.zero_le _,?_,by simp only;omega,by simp +decide only [go_sem],x1,by simp +decide only [go_sem],by simp +decide only [go_sem],Nat.le_refl _,by omega,by simp,by simp,_,g1,Own.nil _ _ _,by simp [vblk]⟩
  unfold lex
  rw [if_neg hl512]
  simp
 ·rintro ⟨p,f,xs⟩ e w ⟨hp,hlex,hf,hsz,hxw,e0,e4,L⟩ next
  simp only at hp hlex hf L
  have L':=L
  obtain ⟨hl,hxb,hbd,hall,ov,hg,own,hv⟩:=L
  obtain ⟨g,rfl⟩:∃ g,f=g+1:=⟨f - 1,by omega⟩
  have hb0:(l.drop p)[0]? =l[p]? :=by rw [List.getElem?_drop,Nat.add_zero]
  rw [lexF_succ,hb0] at hlex
  obtain ⟨oa,oc,rfl⟩:=own.shape
  by_cases hpl:(p:Int) < ((l.length:Nat):Int)
  case neg =>
   rw [List.getElem?_eq_none (by omega)] at hlex
   simp +decide only [go_sem,WR,WS,hsz,e0,e4,hg,hpl]
   exact .inr ⟨xs,_,_,by simpa using hlex,hall,by omega,rfl,own.sl⟩
  obtain ⟨y,hy⟩:∃ y,l[p]? =some y:=⟨_,List.getElem?_eq_getElem (by omega)⟩
  rw [hy] at hlex
  simp only at hlex
  have i0:(0:Int)≤(p:Int):=by omega
  obtain ⟨b',o',cs',q1,q2,q3,q4⟩:=(t.ext hxw).one hy
  cases q1
  by_cases hlamp:y=9053
  ·rw [if_pos hlamp] at hlex
   simp +decide only [go_sem,WR,WS,hsz,e0,e4,hg,hpl,i0,Int.toNat_natCast,Nat.mul_one,q3,q4,hlamp]
   exact .inr ⟨xs,_,_,by simpa using hlex,hall,by omega,rfl,own.sl⟩
  rw [if_neg hlamp] at hlex
  simp +decide only [go_sem,WR,WS,hsz,e0,e4,hg,hpl,i0,Int.toNat_natCast,Nat.mul_one,q3,q4,hlamp]
  refine W_does rfl (Does.ext Kok hxw (next_val hxw t (by omega) L' (by omega))) fun r w2 hr=> ?_
  obtain ⟨hx2,hr⟩:=hr
  rcases hr with ⟨ht,rfl⟩ | ⟨k,ht,rfl,hk1,hk2,hL⟩ | ⟨tk,k,rest,ht,rfl,hk1,hk2,hL⟩
  ·rw [ht] at hlex
   simp +decide only [go_sem,WR,WS,hsz,e0,e4]
   simpa using hlex
  ·rw [ht] at hlex
   simp only [List.drop_drop] at hlex
   simp +decide only [go_sem,WR,WS,hsz,e0,e4]
   exact next (p+k,g,xs) _ _ ⟨hk2,hlex,by simp only;omega,by simp +decide only [go_sem,hsz],hx2,by simp +decide only [go_sem,hsz,e0],by simp +decide only [go_sem,hsz,e4],hL⟩ (by simp only;omega)
  ·rw [ht] at hlex
   simp only [List.drop_drop] at hlex
   simp +decide only [go_sem,WR,WS,hsz,e0,e4]
   refine next (p+k,g,xs++[((p,tk),rest)]) _ _ ⟨hk2,?_,by simp only;omega,by simp +decide only [go_sem,hsz],hx2,by simp +decide only [go_sem,hsz,e0],by simp +decide only [go_sem,hsz,e4],hL⟩ (by simp only;omega)
   rw [hlex]
   simp only [Option.map_map]
   congr 1
   funext z
   simp
end Go.Proofs.YtjlaenglmdpboaaGreat.V7
