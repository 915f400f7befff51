/- Proved here: parts of the way to BEditBack (Im2); no condition beyond those that each theorem names. -/
import Derived.Test.YtachkofbmodnnaaGreatG1
import Derived.LoopN
import Derived.Scope
set_option linter.unusedSectionVars false
set_option linter.unusedSimpArgs false
set_option linter.unusedVariables false
namespace Go.Im
def ZhL (P:Program) (o:Oper) (ρ':Operand→Value) (ψ:Zac) (w:World):Out→World→Prop
 | .val v,w'=>∃ v',(execOp ρ' o).run P w= .ok (.value v') w'∧RV ψ v v'
 | .skip,w'=>(execOp ρ' o).run P w= .ok .skip w'
 | .enter f args,w'=>∃ args':Array Value,(execOp ρ' o).run P w=(callFunc f args').run P w∧RL ψ args.toList args'.toList∧w'=w
section
variable {P:Program} {low:Nat} {φ:Zac} {h:Heap} {w:World}
theorem ZaZ {o:Oper} {ρ':Operand→Value} {s:Sem Value} {v:Value} {h':Heap} (hm:ZaK P low φ h w s v h') (he:(execOp ρ' o).run P w=(do pure (Next.value (← s)):Sem Next).run P w) :
  ∃ ψ w',Goes low φ h w ψ h' w'∧ZhL P o ρ' ψ w (.val v) w':=by
 obtain ⟨ψ,w',v',h1,h2,h3⟩:=hm
 exact ⟨ψ,w',h2,v',by rw [he];simp [h1],h3⟩
theorem Zav (r:RH φ h w) {o:Oper} {ρ':Operand→Value} {v v':Value} (hr:(execOp ρ' o).run P w= .ok (.value v') w) (hv:RV φ v v') :
  ∃ ψ w',Goes low φ h w ψ h w'∧ZhL P o ρ' ψ w (.val v) w':=⟨φ,w,Goes.refl r,v',hr,hv⟩
theorem RL.map {ρ ρ':Operand→Value} (hρ:∀ x,RV φ (ρ x) (ρ' x)) (l:List Operand):RL φ (l.map ρ) (l.map ρ'):=by
 refine ⟨by simp,fun i x y hx hy=> ?_⟩
 rw [List.getElem?_map,Option.map_eq_some_iff] at hx hy
 obtain ⟨a,ha,rfl⟩:=hx
 obtain ⟨b,hb,rfl⟩:=hy
 rw [ha] at hb
 cases hb
 exact hρ a
theorem Zd2 {v v':Value} {n:Int} (hv:RV φ v v') (hn:numOf v=some n):∃ k,v'= .int k n:=by
 cases hv<;>simp [numOf] at hn
 exact ⟨_,by rw [hn]⟩
theorem Zqp (r:RH φ h w) {b:Nat} {l:Loc} (hb:φ b=some l) {s:ByteArray} {p:Nat} (hg:h.get b= .siter s p):w.heap[l.blk]? =some (.stringIter s p)∧l.off=0:=by
 obtain ⟨o,ho,hr⟩:=r.blk b l hb
 rw [hg] at hr
 cases o with
 | stringIter s' p' =>
   obtain ⟨rfl,rfl,h0⟩:=hr
   exact ⟨ho,h0⟩
 | _=>exact absurd hr (by simp [RB])
theorem ZgO (r:RH φ h w) {o:Oper} {ρ ρ':Operand→Value} (hρ:∀ x,RV φ (ρ x) (ρ' x)) {v:Value} {ob:Option Blk} (hi:iop0 P h.size o.op ρ=some (v,ob)) :
  ∃ ψ w',Goes low φ h w ψ (Heap.more h ob) w'∧ZhL P o ρ' ψ w (.val v) w':=by
 obtain ⟨dst,op,ty,pos,after,guard⟩:=o
 have lv:∀ {x:Option Value},(match x with | some x=>some (x,(none:Option Blk)) | none=>none)=some (v,ob)→x=some v∧ob=none:=by
  intro x hx
  split at hx
  ·cases hx;exact ⟨rfl,rfl⟩
  ·cases hx
 unfold iop0 at hi
 simp only at hi
 split at hi
 case h_1 =>
  cases hi
  exact Zav r rfl (hρ _)
 case h_2 =>
  cases hi
  exact Zav r rfl (hρ _)
 case h_3 c a b =>
  have hc:=hρ c
  split at hi
  ·rename_i t ht
   cases hi
   rw [ht] at hc
   generalize hcv:ρ' c=cv at hc
   cases hc
   refine Zav r (v':=if t then ρ' a else ρ' b) ?_ (by cases t<;>simp [hρ])
   simp [execOp,hcv,asBool]
  ·cases hi
 case h_4 e =>
  split at hi
  ·rename_i z n hz hn
   split at hi
   ·rename_i hc
    obtain ⟨h1,h2,h3⟩:=hc
    cases hi
    exact ZaZ (Zji r e hz h1 h2 h3) rfl
   ·cases hi
  ·cases hi
 case h_5 e x =>
  split at hi
  ·rename_i n hn
   split at hi
   ·rename_i hc
    obtain ⟨h1,h2,h3⟩:=hc
    cases hi
    exact ZaZ (Zib r e h1 h2 h3 (hρ x)) rfl
   ·cases hi
  ·cases hi
 case h_6 t parts =>
  split at hi
  ·rename_i z hz
   split at hi
   ·rename_i hc
    obtain ⟨h1,h2⟩:=hc
    obtain ⟨hv,rfl⟩:=lv hi
    exact ZaZ (Zjg r hρ hz h1 h2 hv) rfl
   ·cases hi
  ·cases hi
 case h_7 t len parts =>
  split at hi
  ·rename_i e ht
   split at hi
   ·rename_i i hinfo
    split at hi
    ·rename_i z hz
     split at hi
     ·rename_i hc
      obtain ⟨h1,h2,h3,h4,h5⟩:=hc
      split at hi
      ·rename_i cells hf
       split at hi
       ·rename_i hok
        cases hi
        exact ZaZ (Zfc r hρ ht hinfo hz h1 h2 h3 h4 h5 hf hok) rfl
       ·cases hi
      ·cases hi
     ·cases hi
    ·cases hi
   ·cases hi
  ·cases hi
 case h_8 x =>
  have hx:=hρ x
  split at hi
  ·rename_i a ha
   cases hi
   rw [ha] at hx
   generalize hxv:ρ' x=xv at hx
   have hx':=hx
   cases hx
   refine Zav r (v':=_) ?_ hx'
   simp [execOp,hxv]
  ·rename_i f a c ha
   cases hi
   rw [ha] at hx
   generalize hxv:ρ' x=xv at hx
   have hx':=hx
   cases hx
   refine Zav r (v':=_) ?_ hx'
   simp [execOp,hxv]
  ·cases hi
 case h_9 op t x y yt =>
  obtain ⟨hv,rfl⟩:=lv hi
  exact ZaZ (Zjh r (ox:=x) (oy:=y) (hρ x) (hρ y) hv) rfl
 case h_10 op t x =>
  have hx:=hρ x
  split at hi
  ·rename_i b hb
   cases hi
   rw [hb] at hx
   generalize hxv:ρ' x=xv at hx
   cases hx
   exact Zav r (v':= .bool !b) (by simp [execOp,hxv,Op.unary]) (.bool _)
  ·rename_i k n hb
   cases hi
   rw [hb] at hx
   generalize hxv:ρ' x=xv at hx
   cases hx
   exact Zav r (v':= .int k (k.wrap (0 - n))) (by simp [execOp,hxv,Op.unary,Op.intArith]) (.int _ _)
  ·rename_i k n hb
   split at hi
   case h_2=>cases hi
   rename_i v hv
   cases hi
   rw [hb] at hx
   generalize hxv:ρ' x=xv at hx
   cases hx
   simp only [Op.intBits] at hv
   cases hv
   refine Zav r (v':=_) (by simp [execOp,hxv,Op.unary,Op.intBits]) (.int _ _)
  ·cases hi
 case h_11 t x =>
  split at hi
  ·cases hi
  ·cases hi
  ·rename_i hn1 hn2
   cases hi
   cases hu:P.underlying t with
   | none=>exact absurd hu hn2
   | some d =>
     refine Zav r (v':= .iface t (ρ' x)) ?_ (.iface _ _ _ (hρ x))
     cases d<;>first | (simp [execOp,Instr.makeInterface,Zab hu];done) | exact absurd hu (hn1 _)
 case h_12 fn first captured =>
  cases hi
  refine Zav r (v':= .func fn (first.map ρ') (captured.map ρ')) (by simp [execOp,Instr.makeFunc]) ?_
  have h1:=RL.map hρ first.toList
  have h2:=RL.map hρ captured.toList
  exact .func fn _ _ _ _ Yp Yp (by simpa using h1.2) (by simpa using h2.2)
 case h_13 t l c =>
  exact ZaZ (ZkX r (hρ l) (hρ c) hi) rfl
 case h_14 s x f =>
  have hx:=hρ x
  split at hi
  ·rename_i fd b o hf hxv
   split at hi
   ·rename_i n hn
    split at hi
    ·cases hi
    ·rename_i hn0
     cases hi
     rw [hxv] at hx
     obtain ⟨l,hb,hp⟩:=ZeE hx
     unfold Zc0 at hf
     split at hf
     ·rename_i fs hu
      refine Zav r (v':= .pointer (some ⟨l.blk,l.off+o+fd.offset,none⟩)) ?_ (by rw [Nat.add_assoc];exact .ptr b (o+fd.offset) l hb)
      simp [execOp,Instr.fieldAt,Zab hu,hf,hp,Instr.sureAddr,fieldPlace,Zbg hn,hn0,addr_add]
     ·cases hf
   ·cases hi
  ·cases hi
 case h_15 t x f =>
  have hx:=hρ x
  split at hi
  ·rename_i fd cs hf hxv
   obtain ⟨hv,rfl⟩:=lv hi
   rw [hxv] at hx
   generalize hxv':ρ' x=xv at hx
   cases hx with
   | agg _ cs' hs hc =>
     unfold Zc0 at hf
     split at hf
     ·rename_i fs hu
      refine ZaZ (ZgK (low:=low) r ⟨hs,hc⟩ hv) ?_
      simp [execOp,Instr.field,Zab hu,hf,hxv',asAgg]
     ·cases hf
  ·cases hi
 case h_16 t x ix =>
  have hx:=hρ x
  split at hi
  ·rename_i e b o n c i hu hxv hn
   obtain ⟨k,hk⟩:=Zd2 (hρ ix) hn
   split at hi
   ·rename_i size hs
    split at hi
    ·rename_i hb
     cases hi
     rw [hxv] at hx
     have main:∀ l a' c',φ b=some l→ρ' x= .slice (some a') n c'→a'=⟨l.blk,l.off+o,none⟩→∃ ψ w',Goes low φ h w ψ h w'∧ZhL P ⟨dst,.indexAddr t x ix,ty,pos,after,guard⟩ ρ' ψ w (.val (.pointer (some ⟨b,o+i.toNat*size,none⟩))) w':=by
      intro l a' c' hb' hxp ha
      subst ha
      refine Zav r (v':= .pointer (some ⟨l.blk,l.off+o+i.toNat*size,none⟩)) ?_ (by rw [Nat.add_assoc];exact .ptr b (o+i.toNat*size) l hb')
      simp [execOp,Instr.indexAt,Zab hu,hk,hxp,asIntOf,Zbg hs,hb,addr_add]
     generalize hxp:ρ' x=xv at hx
     cases hx with
     | known _ _ _ _ l h1=>exact main l _ _ h1 hxp rfl
     | unknown _ _ _ _ l h1=>exact main l _ _ h1 hxp rfl
     | spent=>omega
     | void=>omega
    ·cases hi
   ·cases hi
  ·rename_i n e b o i hu hxv hn
   obtain ⟨k,hk⟩:=Zd2 (hρ ix) hn
   split at hi
   ·rename_i size hs
    split at hi
    ·rename_i hb
     cases hi
     rw [hxv] at hx
     obtain ⟨l,hb',hp⟩:=ZeE hx
     refine Zav r (v':= .pointer (some ⟨l.blk,l.off+o+i.toNat*size,none⟩)) ?_ (by rw [Nat.add_assoc];exact .ptr b (o+i.toNat*size) l hb')
     simp [execOp,Instr.indexAt,Zab hu,hk,hp,asIntOf,Instr.sureAddr,Zbg hs,hb,addr_add]
    ·cases hi
   ·cases hi
  ·cases hi
 case h_17 t x ix =>
  have hx:=hρ x
  split at hi
  ·rename_i s i hu hxv hn
   obtain ⟨k,hk⟩:=Zd2 (hρ ix) hn
   split at hi
   ·rename_i h0
    split at hi
    ·rename_i b hb
     cases hi
     rw [hxv] at hx
     generalize hxp:ρ' x=xv at hx
     cases hx
     have hlt:i.toNat < s.size:=by
      have:=(List.getElem?_eq_some_iff.1 hb).1
      simpa using this
     have hsb:s[i.toNat]? =some b:=by
      have h1:=(List.getElem?_eq_some_iff.1 hb).2
      rw [getElem?_pos s i.toNat hlt]
      congr 1
     refine Zav r (v':= .int .u8 b.toNat) ?_ (.int _ _)
     simp only [execOp,Instr.index,hk,hxp,asIntOf,Sem.run_bind,Sem.run_pure,Result.andThen_ok,Zab hu,h0,if_true,hsb]
    ·cases hi
   ·cases hi
  ·rename_i n e cs i hu hxv hn
   obtain ⟨k,hk⟩:=Zd2 (hρ ix) hn
   split at hi
   ·rename_i size hs
    split at hi
    ·rename_i hb
     obtain ⟨hv,rfl⟩:=lv hi
     rw [hxv] at hx
     generalize hxp:ρ' x=xv at hx
     cases hx with
     | agg _ cs' h1 h2 =>
       refine ZaZ (ZgK (low:=low) r ⟨h1,h2⟩ hv) ?_
       simp only [execOp,Instr.index,hk,hxp,asIntOf,Sem.run_bind,Sem.run_pure,Result.andThen_ok,Zab hu,Zbg hs,Sem.run_ite,hb,and_self,if_true]
    ·cases hi
   ·cases hi
  ·cases hi
 case h_18 t x =>
  have hx:=hρ x
  split at hi
  ·rename_i s hu hxv
   cases hi
   rw [hxv] at hx
   generalize hxp:ρ' x=xv at hx
   cases hx
   have hg:=Goes.make (low:=low) r (l:=⟨w.heap.size,0,0,0,0⟩) rfl (x:= .siter s 0) (o:= .stringIter s 0) ⟨rfl,rfl,rfl⟩
   refine ⟨_,_,hg,.pointer (some ⟨w.heap.size,0,none⟩),?_,RV.ZnD _ 0 rfl⟩
   simp [execOp,Instr.range,hxp,Zab hu]
  ·cases hi
 case h_19 t ix =>
  have hx:=hρ t
  split at hi
  ·rename_i vs hxv
   obtain ⟨hv,rfl⟩:=lv hi
   rw [hxv] at hx
   generalize hxp:ρ' t=xv at hx
   cases hx with
   | tuple _ vs' h1 h2 =>
     obtain ⟨y,hy,hr⟩:=RL.get (φ:=φ) ⟨h1,h2⟩ (by simpa using hv)
     refine Zav r (v':=y) ?_ hr
     have:vs'[ix]? =some y:=by simpa using hy
     simp [execOp,Instr.extract,hxp,this]
  ·cases hi
 case h_20 c =>
  split at hi
  ·rename_i b hcal
   obtain ⟨hv,rfl⟩:=lv hi
   obtain ⟨v',g1,g3⟩:=Zgi (ty:=ty) (cs:=c.args.map fun | .const _=>true | _=>false) r (RL.map hρ c.args.toList) hv
   refine Zav r (v':=v') ?_ g3
   rw [← g1]
   have he:(List.map ρ' c.args.toList).toArray=Array.map ρ' c.args:=by
    apply Array.ext'
    simp
   rw [he]
   simp [execOp,resolve,hcal,invoke]
   rfl
  ·cases hi
 case h_21=>cases hi
theorem Zld (r:RH φ h w) {o:Oper} {ρ ρ':Operand→Value} (hρ:∀ x,RV φ (ρ x) (ρ' x)) {out:Out} {h':Heap} (hi:iop1 P low o.op ρ h=some (out,h')) :
  ∃ ψ w',Goes low φ h w ψ h' w'∧ZhL P o ρ' ψ w out w':=by
 obtain ⟨dst,op,ty,pos,after,guard⟩:=o
 have lv:∀ {x:Option Value},(match x with | some x=>some (Out.val x,h) | none=>none)=some (out,h')→∃ v,x=some v∧out= .val v∧h'=h:=by
  intro x hx
  split at hx
  ·cases hx;exact ⟨_,rfl,rfl,rfl⟩
  ·cases hx
 have lvh:∀ {x:Option (Value × Heap)},(match x with | some (x,h)=>some (Out.val x,h) | none=>none)=some (out,h')→∃ v,x=some (v,h')∧out= .val v:=by
  intro x hx
  split at hx
  ·cases hx;exact ⟨_,rfl,rfl⟩
  ·cases hx
 unfold iop1 at hi
 simp only at hi
 split at hi
 case h_1 t a =>
  obtain ⟨v,hv,rfl,rfl⟩:=lv hi
  exact ZaZ (ZkY r (hρ a) hv) rfl
 case h_2 t a x =>
  split at hi
  ·rename_i h1 hs
   cases hi
   obtain ⟨w',g1,g2⟩:=Zlh (P:=P) r (hρ a) (hρ x) hs
   exact ⟨φ,w',g2,by simp [ZhL,execOp,g1]⟩
  ·cases hi
 case h_3 src dst x =>
  obtain ⟨v,hv,rfl⟩:=lvh hi
  exact ZaZ (ZkZ r (hρ x) hv) rfl
 case h_4 t x lo hi' mx =>
  obtain ⟨v,hv,rfl,rfl⟩:=lv hi
  exact ZaZ (Zje r (hρ x) (ZeH lo) (ZeH hi') (ZeH mx) (Zjb hρ lo) (Zjb hρ hi') (Zjb hρ mx) hv) rfl
 case h_5 it =>
  have hx:=hρ it
  split at hi
  ·rename_i b hxv
   rw [hxv] at hx
   obtain ⟨l,hb,hp⟩:=ZeE hx
   split at hi
   ·rename_i s p hg
    obtain ⟨hobj,h0⟩:=Zqp r hb hg
    split at hi
    ·rename_i hl
     split at hi
     ·rename_i hlt
      cases hi
      have hgo:=Goes.update (low:=low) r hb hl YQ YU (x:= .siter s (p+(Utf8.decode s p).2)) (o:= .stringIter s (p+(Utf8.decode s p).2)) ⟨rfl,rfl,h0⟩
      refine ⟨φ,_,hgo,.tuple #[.bool true,.int .i64 p,.int .i32 (Utf8.decode s p).1],?_,?_⟩
      ·have hset:(setObj l.blk (.stringIter s (p+(Utf8.decode s p).2))).run P w= .ok () (World.putObj w l.blk (.stringIter s (p+(Utf8.decode s p).2))):=by
        simp [setObj,Sem.run,hobj,World.putObj]
       have hget:(getObj l.blk).run P w= .ok (.stringIter s p) w:=by simp [getObj,Sem.run,hobj]
       simp only [execOp,Instr.next,hp,h0,Nat.add_zero,Sem.run_bind,hget,Result.andThen_ok,hlt,if_true,hset,Sem.run_pure,goInt]
      ·refine .tuple _ _ rfl (RL.cons (.bool _) (RL.cons (.int _ _) (RL.cons (.int _ _) (RL.nil φ)))).2
     ·rename_i hlt
      cases hi
      refine Zav r (v':= .tuple #[.bool false]) ?_ (.tuple _ _ rfl (RL.cons (.bool _) (RL.nil φ)).2)
      have hget:(getObj l.blk).run P w= .ok (.stringIter s p) w:=by simp [getObj,Sem.run,hobj]
      simp only [execOp,Instr.next,hp,h0,Nat.add_zero,Sem.run_bind,hget,Result.andThen_ok,hlt,if_false,Sem.run_pure]
    ·cases hi
   ·cases hi
  ·cases hi
 case h_6 c =>
  split at hi
  ·rename_i f hcal
   have hx:=hρ f
   split at hi
   ·rename_i g first captured hxv
    cases hi
    rw [hxv] at hx
    generalize hxp:ρ' f=xv at hx
    cases hx with
    | func _ _ f' _ c' h1 h2 h3 h4 =>
      refine ⟨φ,w,Goes.refl r,f'++c.args.map ρ'++c',?_,?_,rfl⟩
      ·simp [execOp,resolve,hcal,hxp,Deferred.ofValue,invoke]
      ·have:=((RL.append (φ:=φ) ⟨h1,h3⟩ (RL.map hρ c.args.toList))).append (us:=captured.toList) (vs:=c'.toList) ⟨h2,h4⟩
       simpa using this
   ·cases hi
  ·rename_i recv name hcal
   have hx:=hρ recv
   split at hi
   ·rename_i t x hxv
    split at hi
    ·rename_i f hf
     cases hi
     rw [hxv] at hx
     generalize hxp:ρ' recv=xv at hx
     cases hx with
     | iface _ _ x' hr =>
       refine ⟨φ,w,Goes.refl r, #[x']++c.args.map ρ',?_,?_,rfl⟩
       ·have hsz:(0:Nat) < Made.depth:=by decide
        have hm:=ZkW hf (P.types.size+(Made.depth - 1)) x' w
        rw [show P.types.size+(Made.depth - 1)+1=P.types.size+Made.depth by omega] at hm
        have hx0:(#[Value.iface t x']++Array.map ρ' c.args)[0]? =some (.iface t x'):=by
         rw [Array.getElem?_append_left Yp]
         rfl
        have hx1:(#[Value.iface t x']++Array.map ρ' c.args).extract 1 (#[Value.iface t x']++Array.map ρ' c.args).size=Array.map ρ' c.args:=by
         apply Array.ext'
         simp
         exact List.take_of_length_le Yp
        simp only [execOp,resolve,hcal,hxp,invoke,Sem.run_bind,Sem.run_pure,Result.andThen_ok,hx0,hx1,callMethod,run_program,hm]
       ·have:=RL.append (φ:=φ) (RL.cons hr (RL.nil φ)) (RL.map hρ c.args.toList)
        simpa using this
    ·cases hi
   ·cases hi
  ·rename_i b hcal
   obtain ⟨v,hv,rfl⟩:=lvh hi
   obtain ⟨ψ,w',v',g1,g2,g3⟩:=Zhi (ty:=ty) (cs:=c.args.map fun | .const _=>true | _=>false) r (RL.map hρ c.args.toList) hv
   refine ⟨ψ,w',g2,v',?_,g3⟩
   rw [← g1]
   have he:(List.map ρ' c.args.toList).toArray=Array.map ρ' c.args:=by
    apply Array.ext'
    simp
   rw [he]
   simp [execOp,resolve,hcal,invoke]
   rfl
 case h_7 t x k ok =>
  obtain ⟨v,hv,rfl,rfl⟩:=lv hi
  exact ZaZ (Zid r (hρ x) (hρ k) hv) rfl
 case h_8 t m k x =>
  split at hi
  ·rename_i h1 hs
   cases hi
   obtain ⟨w',g1,g2⟩:=Zjw (P:=P) r (hρ m) (hρ k) (hρ x) hs
   exact ⟨φ,w',g2,by simp [ZhL,execOp,g1]⟩
  ·cases hi
 case h_9 t =>
  cases hi
  have hg:=Goes.make (low:=low) r (l:=⟨w.heap.size,0,0,0,0⟩) rfl (x:= .map [] 0) (o:= .map #[] 0) ⟨rfl,rfl,by intro i e e' he;simp at he⟩
  refine ⟨_,_,hg,.map (some w.heap.size),?_,.map h.size ⟨w.heap.size,0,0,0,0⟩ Y7⟩
  simp [execOp,Instr.makeMap]
 case h_10=>cases hi
theorem Zir (r:RH φ h w) {o:Oper} {ρ ρ':Operand→Value} (hρ:∀ x,RV φ (ρ x) (ρ' x)) {out:Out} {h':Heap} (hi:iop P low o ρ h=some (out,h')) :
  ∃ ψ w',Goes low φ h w ψ h' w'∧ZhL P o ρ' ψ w out w':=by
 unfold iop at hi
 split at hi
 ·exact Zld r hρ hi
 ·split at hi
  ·rename_i v h0
   cases hi
   exact ZgO (low:=low) r hρ h0
  ·rename_i v x h0
   cases hi
   exact ZgO (low:=low) r hρ h0
  ·cases hi
end
end Go.Im
namespace Go.Im
def writes (pure:Pu):Op→Bool
 | .store .. =>true
 | .next .. =>true
 | .convert s d _=>s == d
 | .call c=>match c.callee with
   | .builtin .len | .builtin .max | .builtin .min=>false
   | .builtin _=>true
   | _=> !(pure.of (.call c))
 | .move _ | .assign _ | .pick .. | .alloc _ | .box .. | .build .. | .buildSlice .. | .load .. | .nilCheck _ | .binOp .. | .unOp .. | .makeInterface .. | .makeFunc .. | .makeSlice .. | .slice .. | .fieldAddr .. | .field ..
 | .indexAddr .. | .index .. | .range .. | .extract .. =>false
 | _=>true
def makes:Op→Bool
 | .alloc _ | .box .. | .buildSlice .. | .makeSlice .. | .range .. =>true
 | _=>false
section
variable {P:Program} {low:Nat} {h h':Heap} {o:Oper} {ρ:Operand→Value} {out:Out}
theorem Zk9 {size k:Nat} {s:Value} {new:List Value} {v:Value} (hl:low≤h.size) (hi:iput low h size s k new=some (v,h')):h.size≤h'.size∧∀ b,b < low→h'.get b=h.get b:=by
 unfold iput at hi
 repeat' (split at hi)
 all_goals (first | (cases hi;done) | skip)
 all_goals cases hi
 all_goals (refine ⟨by simp,fun b hb=> ?_⟩)
 all_goals (simp only [Heap.Zam,Heap.Zae,Heap.size_set])
 all_goals (try (rw [if_neg Ya];done))
 all_goals (try (rw [if_neg Ya,if_neg Ya];done))
theorem ZgJ (hl:low≤h.size) (ob:Option Blk):h.size≤(Heap.more h ob).size∧∀ b,b < low→(Heap.more h ob).get b=h.get b:=by
 cases ob with
 | none=>exact ⟨Nat.le_refl _,fun _ _=>rfl⟩
 | some x =>
   refine ⟨by simp [Heap.more],fun b hb=> ?_⟩
   simp only [Heap.more]
   rw [Heap.Zam,if_neg Ya]
theorem Zqv {v:Value} {ob:Option Blk} (ht:Op.touches o.op=false) (h0:iop0 P h.size o.op ρ=some (v,ob)):iop P low o ρ h=some (.val v,Heap.more h ob):=by
 unfold iop
 simp only [ht,Bool.false_eq_true,if_false,h0]
 cases ob<;>rfl
theorem ZcH (ht:Op.touches o.op=false) (hi:iop P low o ρ h=some (out,h')):∃ v ob,iop0 P h.size o.op ρ=some (v,ob)∧out= .val v∧h'=Heap.more h ob:=by
 unfold iop at hi
 simp only [ht,Bool.false_eq_true,if_false] at hi
 split at hi
 ·rename_i v h0
  cases hi
  exact ⟨v,none,h0,rfl,rfl⟩
 ·rename_i v x h0
  cases hi
  exact ⟨v,some x,h0,rfl,rfl⟩
 ·cases hi
theorem Zis (hl:low≤h.size) (hi:iop P low o ρ h=some (out,h')):h.size≤h'.size∧∀ b,b < low→h'.get b=h.get b:=by
 have hpush:∀ x,h.size≤(h.push x).size∧∀ b,b < low→(h.push x).get b=h.get b:=fun x=>ZgJ hl (some x)
 have hset:∀ c x,low≤c→h.size≤(h.set c x).size∧∀ b,b < low→(h.set c x).get b=h.get b:=by
  intro c x hc
  refine ⟨by simp,fun b hb=> ?_⟩
  rw [Heap.Zae,if_neg Ya]
 have hsame:h.size≤h.size∧∀ b,b < low→h.get b=h.get b:=⟨Nat.le_refl _,fun _ _=>rfl⟩
 cases ht:Op.touches o.op with
 | false =>
   obtain ⟨v,ob,_,_,rfl⟩:=ZcH ht hi
   exact ZgJ hl ob
 | true =>
   unfold iop at hi
   simp only [ht,if_true] at hi
   unfold iop1 at hi
   simp only at hi
   split at hi
   case h_1 =>
    split at hi
    ·cases hi;exact hsame
    ·cases hi
   case h_2 =>
    split at hi
    ·rename_i g hs
     cases hi
     unfold Zcq at hs
     repeat' (split at hs)
     all_goals (first | (cases hs;done) | skip)
     cases hs
     exact hset _ _ (by rename_i hc;exact hc.1)
    ·cases hi
   case h_3 =>
    have hcv:∀ {s d x v g},ZaF P h s d x=some (v,g)→h.size≤g.size∧∀ b,b < low→g.get b=h.get b:=by
     intro s d x v g hs
     unfold ZaF at hs
     repeat' (split at hs)
     all_goals (first | (cases hs;done) | skip)
     all_goals cases hs
     all_goals (first | exact hsame | exact hpush _)
    split at hi
    ·rename_i v g hs
     cases hi
     unfold ZdH at hs
     split at hs
     ·split at hs
      ·unfold Ziq at hs
       repeat' (split at hs)
       all_goals (first | (cases hs;done) | skip)
       rename_i hc
       cases hs
       exact hset _ _ hc.1
      ·exact hcv hs
     ·exact hcv hs
    ·cases hi
   case h_4 =>
    split at hi
    ·cases hi;exact hsame
    ·cases hi
   case h_5 =>
    repeat' (split at hi)
    all_goals (first | (cases hi;done) | skip)
    ·rename_i hc _
     cases hi
     exact hset _ _ hc
    ·cases hi
     exact hsame
   case h_6 =>
    split at hi
    ·split at hi
     ·cases hi;exact hsame
     ·cases hi
    ·split at hi
     ·split at hi
      ·cases hi;exact hsame
      ·cases hi
     ·cases hi
    ·split at hi
     ·rename_i v g hs
      cases hi
      unfold ZaG at hs
      split at hs
      ·split at hs
       ·unfold ZaC at hs
        repeat' (split at hs)
        all_goals (first | (cases hs;done) | skip)
        ·cases hs;exact hsame
        ·exact Zk9 hl hs
       ·cases hs
      ·repeat' (split at hs)
       all_goals (first | (cases hs;done) | skip)
       rename_i hc
       cases hs
       exact hset _ _ hc.1
      ·repeat' (split at hs)
       all_goals (first | (cases hs;done) | skip)
       cases hs
       exact hsame
      ·repeat' (split at hs)
       all_goals (first | (cases hs;done) | skip)
       rename_i hc
       cases hs
       exact hset _ _ hc.1
      ·split at hs
       ·split at hs
        ·rename_i hd
         cases hs
         unfold ZcZ at hd
         repeat' (split at hd)
         all_goals (first | (cases hd;done) | skip)
         all_goals cases hd
         all_goals (first | exact hsame | exact hset _ _ Y2)
        ·cases hs
       ·cases hs
      ·cases hs
     ·cases hi
   case h_7 =>
    split at hi
    ·cases hi;exact hsame
    ·cases hi
   case h_8 =>
    split at hi
    ·rename_i g hs
     cases hi
     unfold ZcI at hs
     repeat' (split at hs)
     all_goals (first | (cases hs;done) | skip)
     cases hs
     exact hset _ _ Y2
    ·cases hi
   case h_9 =>
    cases hi
    exact hpush _
   case h_10=>cases hi
theorem ZmX {s d:TypeId} (hsd:(s == d)=false) (low':Nat) (x:Value):ZdH P low h s d x=ZdH P low' h s d x:=by
 have:¬ s=d:=by simpa using hsd
 unfold ZdH
 split
 ·rw [if_neg this,if_neg this]
 ·rfl
theorem Zjq (hw:writes (some []) o.op=false) (low':Nat):iop P low o ρ h=iop P low' o ρ h:=by
 unfold iop
 cases ht:Op.touches o.op with
 | false=>rfl
 | true =>
   simp only [if_true]
   obtain ⟨dst,op,ty,pos,after,guard⟩:=o
   cases op<;>simp only [writes] at hw<;>first | (cases hw;done) | rfl | (simp only [iop1,ZmX hw low'];done) | skip
   rename_i c
   obtain ⟨callee,args,ts⟩:=c
   cases callee with
   | builtin b=>cases b<;>simp at hw<;>simp [Op.touches] at ht
   | value f=>rfl
   | invoke r n=>rfl
theorem Zdo {ρ ρ':Operand→Value} (ps:Array (Nat × Operand)) (hp:∀ x ∈ ps.map (·.2),ρ x=ρ' x):(ps.map fun (i,x)=>(i,ρ x))=(ps.map fun (i,x)=>(i,ρ' x)) :=
 Array.map_congr_left fun p hm=>by
  obtain ⟨i,x⟩:=p
  simp only [hp x (Array.mem_map.2 ⟨(i,x),hm,rfl⟩)]
theorem Zdr {ρ ρ':Operand→Value} (ps:Array (Nat × Operand)) (hp:∀ x ∈ ps.map (·.2),ρ x=ρ' x) (f:Value→Bool) :
  ps.toList.all (fun p=>f (ρ p.2))=ps.toList.all (fun p=>f (ρ' p.2)):=by
 rw [Bool.eq_iff_iff,List.all_eq_true,List.all_eq_true]
 constructor
 ·intro h p hm
  rw [← hp p.2 (Array.mem_map.2 ⟨p,by simpa using hm,rfl⟩)]
  exact h p hm
 ·intro h p hm
  rw [hp p.2 (Array.mem_map.2 ⟨p,by simpa using hm,rfl⟩)]
  exact h p hm
theorem ZmP {ρ':Operand→Value} (hc:∀ x ∈ o.op.operands,ρ x=ρ' x):iop P low o ρ h=iop P low o ρ' h:=by
 obtain ⟨dst,op,ty,pos,after,guard⟩:=o
 have args:∀ c:Call,(∀ x ∈ c.operands,ρ x=ρ' x)→c.args.toList.map ρ=c.args.toList.map ρ'∧c.args.map ρ=c.args.map ρ':=by
  intro c h
  constructor
  ·exact List.map_congr_left fun x hx=>h x (by simp [Call.operands,Array.mem_toList_iff.1 hx])
  ·exact Array.map_congr_left fun x hx=>h x (by simp [Call.operands,hx])
 unfold iop
 simp only
 cases op<;>simp only [Op.operands] at hc
 case build t ps =>
  have hp:∀ x ∈ ps.map (·.2),ρ x=ρ' x:=fun x hx=>hc x (by simpa using hx)
  simp only [iop0,Zdo ps hp,Zdr ps hp (fun v=>v.cells.toList.all Zal)]
  rfl
 case buildSlice t n ps =>
  have hp:∀ x ∈ ps.map (·.2),ρ x=ρ' x:=fun x hx=>hc x (by simpa using hx)
  simp only [iop0,Zdo ps hp,Zdr ps hp (fun v=>v.cells.toList.all Zal)]
  rfl
 case makeFunc fn first captured =>
  simp only [iop0]
  rw [Array.map_congr_left (xs:=first) fun x hx=>hc x Y6,Array.map_congr_left (xs:=captured) fun x hx=>hc x Y6]
  rfl
 case call c =>
  obtain ⟨h1,h2⟩:=args c hc
  simp only [iop0,iop1,h1,h2]
  cases hcal:c.callee with
  | value f =>
    have hf:ρ f=ρ' f:=hc f (by simp [Call.operands,hcal])
    simp only [hf]
  | builtin b=>rfl
  | invoke r n =>
    have hf:ρ r=ρ' r:=hc r (by simp [Call.operands,hcal])
    simp only [hf]
 case makeMap t r =>
  cases r<;>simp only [iop0,iop1]
 case slice t x lo hi mx =>
  have e1:lo.map ρ=lo.map ρ':=by cases lo<;>simp_all
  have e2:hi.map ρ=hi.map ρ':=by cases hi<;>simp_all
  have e3:mx.map ρ=mx.map ρ':=by cases mx<;>simp_all
  have e4:ρ x=ρ' x:=hc x Yp
  simp only [iop0,iop1,e1,e2,e3,e4]
 case next it b =>
  have hf:ρ it=ρ' it:=hc it Yp
  cases b<;>simp only [iop0,iop1,hf]
 all_goals (simp only [iop0,iop1])
 all_goals (try (simp at hc;simp only [hc];done))
 all_goals (try rfl)
end
end Go.Im
namespace Go.Im
structure CallOK (P:Program) (T:Tied) (call:Nat→FuncId→Array Value→Heap→Option (Value × Heap)):Prop where
 fn : ∀ {low f args h v h'}, call low f args h = some (v, h') → ∃ fn, P.funcs[f]? = some fn ∧ fn.body.isNone = false ∧ (fn.name == "runtime.NumGoroutine") = false
 keeps:∀ {low f args h v h'},low≤h.size→call low f args h=some (v,h')→h.size≤h'.size∧∀ b,b < low→h'.get b=h.get b
 sound:∀ {low f args h v h'},low≤h.size→call low f args h=some (v,h')→∀ (φ:Zac) (w:World) (args':Array Value),RL φ args.toList args'.toList→RH φ h w→T.holds φ →
  Calls P f args' w fun e w'=>∃ ψ v',e= .returned v'∧RV ψ v v'∧Goes low φ h w ψ h' w'
inductive Zcz (P:Program) (low:Nat) (pure:Pu) (call:Nat→FuncId→Array Value→Heap→Option (Value × Heap)) (ops:Array Oper) (o:Oper) (e:Env) (h:Heap):Value→Heap→Prop
 | off (hw:ZaR ops o e=some false):Zcz P low pure call ops o e h undef h
 | val (v:Value) (h':Heap) (hw:ZaR ops o e=some true) (hi:iop P low o e.eval h=some (.val v,h')):Zcz P low pure call ops o e h v h'
 | skip (h':Heap) (hw:ZaR ops o e=some true) (hi:iop P low o e.eval h=some (.skip,h')):Zcz P low pure call ops o e h undef h'
 | call (f:FuncId) (args:Array Value) (h1 h':Heap) (v:Value) (hw:ZaR ops o e=some true) (hi:iop P low o e.eval h=some (.enter f args,h1))
    (hc:call (if pure.of o.op then h1.size else low) f args h1=some (v,h')):Zcz P low pure call ops o e h v h'
theorem Zeg {P:Program} {low:Nat} {pure:Pu} {call:Nat→FuncId→Array Value→Heap→Option (Value × Heap)} {ops:Array Oper}:∀ (rest:List Oper) (e:Env) (h:Heap) (e':Env) (h':Heap),
  ZaB P low pure call ops rest e h=some (e',h')→∃ (E:Nat→Env) (H:Nat→Heap) (V:Nat→Value),E 0=e∧H 0=h∧E rest.length=e'∧H rest.length=h' ∧
   ∀ i o,rest[i]? =some o→Zcz P low pure call ops o (E i) (H i) (V i) (H (i+1))∧E (i+1)=(E i).put o.dst (V i)
 | [],e,h,e',h',hi=>by
   simp only [ZaB] at hi
   cases hi
   exact ⟨fun _=>e,fun _=>h,fun _=>undef,rfl,rfl,rfl,rfl,fun i o ho=>by simp at ho⟩
 | o::rest,e,h,e',h',hi=>by
   have next:∀ (v:Value) (h1:Heap),Zcz P low pure call ops o e h v h1→ZaB P low pure call ops rest (e.put o.dst v) h1=some (e',h') →
     ∃ (E:Nat→Env) (H:Nat→Heap) (V:Nat→Value),E 0=e∧H 0=h∧E (o::rest).length=e'∧H (o::rest).length=h' ∧
       ∀ i o',(o::rest)[i]? =some o'→Zcz P low pure call ops o' (E i) (H i) (V i) (H (i+1))∧E (i+1)=(E i).put o'.dst (V i):=by
    intro v h1 hs hr
    obtain ⟨E,H,V,h0,h2,h3,h4,h5⟩:=Zeg rest _ _ _ _ hr
    refine ⟨fun i=>match i with | 0=>e | i+1=>E i,fun i=>match i with | 0=>h | i+1=>H i,fun i=>match i with | 0=>v | i+1=>V i,rfl,rfl,by simpa using h3,by simpa using h4,?_⟩
    intro i o' ho
    cases i with
    | zero =>
      simp at ho
      subst ho
      simp only [h0,h2,and_true]
      exact hs
    | succ i=>exact h5 i o' (by simpa using ho)
   unfold ZaB at hi
   split at hi
   ·cases hi
   ·rename_i hw
    exact next _ _ (.off hw) hi
   ·rename_i hw
    split at hi
    ·cases hi
    ·rename_i v h1 ho
     exact next _ _ (.val v h1 hw ho) hi
    ·rename_i h1 ho
     exact next _ _ (.skip h1 hw ho) hi
    ·rename_i f args h1 ho
     split at hi
     ·cases hi
     ·rename_i v h2 hc
      exact next _ _ (.call f args h1 h2 v hw ho hc) hi
theorem Zfz {pure:Pu} {op:Op} (h:writes pure op=false):writes (some []) op=false:=by
 cases op<;>simp only [writes] at h ⊢<;>try exact h
 rename_i c
 obtain ⟨callee,args,ts⟩:=c
 cases callee with
 | builtin b=>cases b<;>simp at h ⊢
 | value f=>cases f<;>rfl
 | invoke r n=>rfl
theorem Za9 {pure:Pu} {op:Op} (h:writes pure op=true):Op.touches op=true:=by
 cases op<;>simp only [writes,Op.touches] at h ⊢<;>try (cases h;done)
 rename_i c
 obtain ⟨callee,args,ts⟩:=c
 cases callee with
 | builtin b=>cases b<;>simp at h ⊢
 | value f=>rfl
 | invoke r n=>rfl
section
variable {P:Program} {T:Tied} {low:Nat} {pure:Pu} {call:Nat→FuncId→Array Value→Heap→Option (Value × Heap)} {ops:Array Oper} {o:Oper} {e:Env} {h h':Heap} {v:Value}
def lowest (pure:Pu) (low:Nat) (o:Oper) (h:Heap):Nat:=if writes pure o.op then low else h.size
theorem Zeb (hl:low≤h.size):lowest pure low o h≤h.size∧low≤lowest pure low o h:=by
 unfold lowest
 split<;>omega
theorem ZeP {ρ:Operand→Value} {f:FuncId} {args:Array Value} (hi:iop P low o ρ h=some (.enter f args,h')):h'=h∧∃ c,o.op= .call c∧(∀ p:Pu,writes p (.call c)= !(p.of (.call c)))∧∀ b,c.callee≠ .builtin b:=by
 unfold iop at hi
 split at hi
 ·unfold iop1 at hi
  simp only at hi
  split at hi
  case h_6 c hop =>
   split at hi
   ·rename_i g hg
    split at hi
    ·cases hi;exact ⟨rfl,c,hop,fun p=>by simp only [writes,hg],fun b=>by rw [hg];simp⟩
    ·cases hi
   ·rename_i g n hg
    split at hi
    ·split at hi
     ·cases hi;exact ⟨rfl,c,hop,fun p=>by simp only [writes,hg],fun b=>by rw [hg];simp⟩
     ·cases hi
    ·cases hi
   ·split at hi<;>cases hi
  all_goals (repeat' (split at hi))
  all_goals (cases hi)
 ·split at hi<;>cases hi
theorem Zcz.keeps (hc:CallOK P T call) (hl:low≤h.size) (st:Zcz P low pure call ops o e h v h'):h.size≤h'.size∧∀ b,b < lowest pure low o h→h'.get b=h.get b:=by
 have nonw:∀ {out h1},iop P low o e.eval h=some (out,h1)→h.size≤h1.size∧∀ b,b < lowest pure low o h→h1.get b=h.get b:=by
  intro out h1 hi
  unfold lowest
  split
  ·exact Zis hl hi
  ·rename_i hw
   have hw':writes pure o.op=false:=by simpa using hw
   rw [Zjq (Zfz hw') h.size] at hi
   exact Zis (Nat.le_refl _) hi
 cases st with
 | off hw=>exact ⟨Nat.le_refl _,fun _ _=>rfl⟩
 | val v h' hw hi=>exact nonw hi
 | skip h' hw hi=>exact nonw hi
 | call f args h1 h' v hw hi hcl =>
   obtain ⟨rfl,c,hop,hcal,_⟩:=ZeP hi
   unfold lowest
   rw [hop] at hcl
   simp only [hop,hcal]
   cases hpb:pure.of (.call c) with
   | true =>
     simp only [hpb,if_true] at hcl
     simpa using hc.keeps (Nat.le_refl _) hcl
   | false =>
     simp only [hpb,Bool.false_eq_true,if_false] at hcl
     simpa using hc.keeps hl hcl
theorem Zcz.wp (hc:CallOK P T call) (hl:low≤h.size) (st:Zcz P low pure call ops o e h v h') {φ:Zac} {w:World} {a:Act} {i:Nat} {Q:Exit→Act→World→Prop} {K:Act→World→Prop}
  (r:RH φ h w) (ht:T.holds φ) (hρ:∀ x ∈ o.op.operands,RV φ (e.eval x) (a.eval x)) (hwant:∀ b,ZaR ops o e=some b→Region.wanted o (yielded ops a.tmps)=b) (hi:ops[i]? =some o)
  (hK:∀ ψ w' v',Goes (lowest pure low o h) φ h w ψ h' w'→RV ψ v v'→K (a.put o.dst v') w'):wpOp P ops Q i K a w:=by
 classical
 have hlow:=Zeb (pure:=pure) (o:=o) hl
 let ρ2:Operand→Value:=fun x=>if x ∈ o.op.operands then e.eval x else bad
 have hρ2:∀ x,RV φ (ρ2 x) (a.eval x):=by
  intro x
  simp only [ρ2]
  split
  ·rename_i hx;exact hρ x hx
  ·exact .bad _
 have hcong:∀ lw,iop P lw o e.eval h=iop P lw o ρ2 h:=fun lw=>ZmP fun x hx=>by simp only [ρ2,hx,if_true]
 have sound:∀ {out h1},iop P low o e.eval h=some (out,h1)→∃ ψ w',Goes (lowest pure low o h) φ h w ψ h1 w'∧ZhL P o a.eval ψ w out w':=by
  intro out h1 hio
  unfold lowest
  split
  ·rw [hcong] at hio
   exact Zir r hρ2 hio
  ·rename_i hw
   have hw':writes pure o.op=false:=by simpa using hw
   rw [Zjq (Zfz hw') h.size,hcong] at hio
   exact Zir r hρ2 hio
 unfold wpOp
 simp only [hi]
 cases st with
 | off hw =>
   simp only [hwant false hw,Bool.false_eq_true,if_false]
   exact hK φ w undef (Goes.refl r) (RV.undef φ)
 | val v h' hw hio =>
   simp only [hwant true hw,if_true]
   left
   obtain ⟨ψ,w',g,v',hrun,hv⟩:=sound hio
   unfold Oper.wp
   rw [hrun,Oper.upon_value]
   exact hK ψ w' v' g hv
 | skip h' hw hio =>
   simp only [hwant true hw,if_true]
   left
   obtain ⟨ψ,w',g,hrun⟩:=sound hio
   unfold Oper.wp
   rw [show (execOp a.eval o).run P w= .ok .skip w' from hrun,Oper.upon_skip]
   exact hK ψ w' undef g (RV.undef ψ)
 | call f args h1 h' v hw hio hcl =>
   simp only [hwant true hw,if_true]
   left
   obtain ⟨ψ,w',g,args',hrun,hargs,rfl⟩:=sound hio
   obtain ⟨rfl,c,hop,hcal,_⟩:=ZeP hio
   obtain ⟨fn,hf,hbody,hname⟩:=hc.fn hcl
   have hψ:ψ=φ:=funext fun b=>by
    by_cases hb:b < h1.size
    ·exact g.old b hb
    ·cases hh:ψ b with
     | none =>
       cases hh2:φ b with
       | none=>rfl
       | some l=>rw [g.ext b l hh2] at hh;cases hh
     | some l=>exact absurd (g.rh.low b l hh).1 hb
   have hargs0:RL φ args.toList args'.toList:=by rw [← hψ];exact hargs
   unfold Oper.wp
   rw [hrun]
   have hcf:(callFunc f args').run P w'= .ok (.enter f args') w':=by
    simp only [callFunc,Sem.run_bind,run_program,Result.andThen_ok,hf,hname,hbody,Bool.false_eq_true,if_false,Sem.run_pure]
   rw [hcf,Oper.upon_enter]
   have hlw:(if pure.of o.op then h1.size else low)=lowest pure low o h1:=by
    unfold lowest
    simp only [hop,hcal]
    cases pure.of (.call c)<;>simp
   rw [hlw] at hcl
   refine (hc.sound hlow.1 hcl φ w' args' hargs0 r ht).mono ?_
   rintro e' w2 ⟨ψ2,v',rfl,hv,g2⟩
   exact hK ψ2 w2 v' g2 hv
end
theorem RE.eval {φ:Zac} {e:Env} {a:Act} (hr:RE φ e a.tmps) (x:Operand):RV φ (e.eval x) (a.eval x):=by
 cases x with
 | tmp t=>exact hr.get t
 | const v =>
   simp only [Env.eval,Act.eval]
   split
   ·rename_i hp;exact RV.plain φ hp
   ·exact .bad _
 | global g=>exact .bad _
 | func f=>exact .func _ _ _ _ _ rfl rfl Yad Yad
theorem RE.mono {φ ψ:Zac} (hx:∀ b l,φ b=some l→ψ b=some l) {e:Env} {t:Array Value} (hr:RE φ e t):RE ψ e t:=⟨hr.size,fun k=>(hr.get k).mono hx⟩
theorem RE.put {φ:Zac} {e:Env} {a:Act} (hr:RE φ e a.tmps) (d:Option Tmp) {v v':Value} (hv:RV φ v v'):RE φ (e.put d v) (a.put d v').tmps:=by
 cases d with
 | none=>exact hr
 | some d =>
   refine ⟨by simp [Act.put,hr.size],fun t=> ?_⟩
   rw [Env.get_put]
   have hsz:=hr.size
   by_cases hd:d < e.size∧t=d
   ·obtain ⟨h1,rfl⟩:=hd
    simp only [h1,and_self,if_true]
    have:(a.put (some t) v').tmps.getD t undef=v':=by
     simp [Act.put,Array.getD_eq_getD_getElem?,Array.getElem?_setIfInBounds,hsz,h1]
    rw [this];exact hv
   ·rw [if_neg hd]
    have:(a.put (some d) v').tmps.getD t undef=a.tmps.getD t undef:=by
     simp only [Act.put,Array.getD_eq_getD_getElem?,Array.getElem?_setIfInBounds]
     by_cases e1:d=t
     ·subst e1
      have h1:¬ d < e.size:=fun hh=>hd ⟨hh,rfl⟩
      have h2:¬ d < a.tmps.size:=by rw [hsz];exact h1
      simp [h2]
     ·simp [e1]
    rw [this];exact hr.get t
theorem Zgs {φ:Zac} {ops:Array Oper} {o:Oper} {e:Env} {tmps:Array Value} (hg:∀ g want d,o.guard=some (g,want)→(ops[g]?).bind (·.dst)=some d→RV φ (e.get d) (tmps.getD d undef)) {b:Bool}
  (hi:ZaR ops o e=some b):Region.wanted o (yielded ops tmps)=b:=by
 unfold ZaR at hi
 unfold Region.wanted
 split at hi
 ·rename_i hgd
  cases hi
  simp [hgd]
 ·rename_i g want hgd
  simp only [hgd]
  split at hi
  ·rename_i hn
   cases hi
   simp [yielded,hn]
  ·rename_i d hd
   have hr:=hg g want d hgd hd
   have hget:tmps.getD d undef=(tmps[d]?).getD undef:=Array.getD_eq_getD_getElem?
   split at hi
   ·rename_i c hc
    cases hi
    rw [hc] at hr
    generalize hq:tmps.getD d undef=q at hr
    cases hr
    have:tmps[d]? =some (.bool c):=by
     rw [hget] at hq
     cases hx:tmps[d]? with
     | none=>rw [hx] at hq;cases hq
     | some y=>rw [hx] at hq;simp at hq;rw [hq]
    simp [yielded,hd,this]
   ·rename_i vs hc
    cases hi
    rw [hc] at hr
    generalize hq:tmps.getD d undef=q at hr
    cases hr with
    | tuple _ ys =>
      have:tmps[d]? =none∨∃ zs,tmps[d]? =some (.tuple zs):=by
       rw [hget] at hq
       cases hx:tmps[d]? with
       | none=>exact .inl rfl
       | some y=>rw [hx] at hq;simp at hq;exact .inr ⟨ys,by rw [hq]⟩
      rcases this with hx | ⟨zs,hx⟩<;>simp [yielded,hd,hx]
   ·cases hi
theorem ZgD {P:Program} {T:Tied} {low:Nat} {call:Nat→FuncId→Array Value→Heap→Option (Value × Heap)} (hc:CallOK P T call) {pure:Pu} {ops:Array Oper} {Q:Exit→Act→World→Prop} :
  ∀ (rest:List Oper) (k:Nat) (e:Env) (h:Heap) (e':Env) (h':Heap) (φ:Zac) (a:Act) (w:World),(∀ j,rest[j]? =ops[k+j]?)→low≤h.size →
    ZaB P low pure call ops rest e h=some (e',h')→RE φ e a.tmps→RH φ h w→T.holds φ →
    (∀ ψ tmps' w',Goes low φ h w ψ h' w'→RE ψ e' tmps'→Q .normal ⟨tmps',a.defers⟩ w')→wpOps P ops Q (List.range' k rest.length) a w
 | [],k,e,h,e',h',φ,a,w,hrest,hl,hi,hre,hrh,ht,hq=>by
   simp only [ZaB] at hi
   cases hi
   exact hq φ a.tmps w (Goes.refl hrh) hre
 | o::rest,k,e,h,e',h',φ,a,w,hrest,hl,hi,hre,hrh,ht,hq=>by
   have ho:ops[k]? =some o:=by have:=hrest 0;simpa using this.symm
   have next:∀ (v:Value) (h1:Heap),Zcz P low pure call ops o e h v h1→ZaB P low pure call ops rest (e.put o.dst v) h1=some (e',h') →
     wpOps P ops Q (List.range' k (o::rest).length) a w:=by
    intro v h1 st hr
    rw [List.length_cons,List.range'_succ,wpOps_cons]
    refine st.wp hc hl hrh ht (fun x _=>hre.eval x) (fun b hb=>Zgs (fun g want d _ _=>hre.get d) hb) ho ?_
    intro ψ w' v' g hv
    have hk:=st.keeps hc hl
    have g':=g.weaken (Zeb (pure:=pure) (o:=o) hl).2
    refine ZgD hc rest (k+1) _ h1 e' h' ψ _ w' (fun j=>by have:=hrest (j+1);rw [show k+1+j=k+(j+1) by omega];simpa using this) Ya hr ((hre.mono g.ext).put o.dst hv) g.rh (T.mono g.ext ht) ?_
    intro χ tmps' w2 g2 hre2
    have hd:(a.put o.dst v').defers=a.defers:=by cases o.dst<;>rfl
    rw [hd]
    exact hq χ tmps' w2 (g'.trans g2) hre2
   unfold ZaB at hi
   split at hi
   ·cases hi
   ·rename_i hw
    exact next _ _ (.off hw) hi
   ·rename_i hw
    split at hi
    ·cases hi
    ·rename_i v h1 hio
     exact next _ _ (.val v h1 hw hio) hi
    ·rename_i h1 hio
     exact next _ _ (.skip h1 hw hio) hi
    ·rename_i f args h1 hio
     split at hi
     ·cases hi
     ·rename_i v h2 hcl
      exact next _ _ (.call f args h1 h2 v hw hio hcl) hi
end Go.Im
namespace Go.Im
def ahead (e:Edge):Bool:=Region.binds .any e
inductive Before (ops:Array Oper):Nat→Nat→Prop
 | edge {i:Nat} {o:Oper} {e:Edge} (ho:ops[i]? =some o) (he:e ∈ o.after.toList) (hb:ahead e=true):Before ops e.on i
 | far {i j:Nat} {o:Oper} {e:Edge} (ho:ops[i]? =some o) (he:e ∈ o.after.toList) (hb:ahead e=true) (h:Before ops j e.on):Before ops j i
def Zbd (ops:Array Oper):Nat→List Nat
 | 0=>[]
 | k+1=>Zbd ops k++[match ops[k]? with
   | some o=>o.after.toList.foldl (fun m e=>if ahead e then m ||| 2 ^ e.on ||| (Zbd ops k).getD e.on 0 else m) 0
   | none=>0]
theorem Ze5 (ops:Array Oper):∀ k,(Zbd ops k).length=k
 | 0=>rfl
 | k+1=>by simp [Zbd,Ze5 ops k]
theorem ZiF (f:Edge→Nat) (j:Nat):∀ (l:List Edge) (m:Nat),(l.foldl (fun m e=>if ahead e then m ||| 2 ^ e.on ||| f e else m) m).testBit j=true→m.testBit j=true∨∃ e ∈ l,ahead e=true∧(e.on=j∨(f e).testBit j=true)
 | [],m,h=> .inl h
 | e::l,m,h=>by
   rw [List.foldl_cons] at h
   rcases ZiF f j l _ h with h1 | ⟨e',h1,h2⟩
   ·by_cases ha:ahead e=true
    ·rw [if_pos ha,Nat.testBit_or,Nat.testBit_or] at h1
     simp only [Bool.or_eq_true,Nat.testBit_two_pow,decide_eq_true_eq] at h1
     rcases h1 with (h1 | h1) | h1
     ·exact .inl h1
     ·exact .inr ⟨e,by simp,ha,.inl h1⟩
     ·exact .inr ⟨e,by simp,ha,.inr h1⟩
    ·rw [if_neg ha] at h1
     exact .inl h1
   ·exact .inr ⟨e',by simp [h1],h2⟩
theorem ZdB (ops:Array Oper):∀ k i j,((Zbd ops k).getD i 0).testBit j=true→Before ops j i
 | 0,i,j,h=>by simp [Zbd] at h
 | k+1,i,j,h=>by
   have hl:=Ze5 ops k
   unfold Zbd at h
   by_cases hi:i < k
   ·rw [List.getD_eq_getElem?_getD,List.getElem?_append_left Ya,← List.getD_eq_getElem?_getD] at h
    exact ZdB ops k i j h
   ·by_cases hk:i=k
    ·subst hk
     rw [List.getD_eq_getElem?_getD,List.getElem?_append_right Ya,hl,Nat.sub_self] at h
     simp only [List.getElem?_cons_zero,Option.getD_some] at h
     split at h
     ·rename_i o ho
      rcases ZiF (fun e=>(Zbd ops i).getD e.on 0) j _ _ h with h1 | ⟨e,he,hb,h1 | h1⟩
      ·simp at h1
      ·subst h1
       exact .edge ho he hb
      ·exact .far ho he hb (ZdB ops i e.on j h1)
     ·simp at h
    ·rw [List.getD_eq_getElem?_getD,List.getElem?_eq_none (by simp [hl];omega)] at h
     simp at h
def ZfX (pure:Pu) (x y:Oper):Bool:= !(writes pure x.op && Op.touches y.op) && !((Op.touches x.op || makes x.op) && writes pure y.op)
def ZhU (ops:Array Oper) (i:Nat) (o:Oper):Bool :=
 (List.range ops.size).all fun k=>decide (k < i) || match ops[k]? with
   | none=>true
   | some y=>match y.dst with
     | none=>true
     | some d=> !(o.looksAt ops).contains d && (k == i || o.dst != some d)
structure Still (ops:Array Oper) (i:Nat) (o:Oper):Prop where
 looks:∀ k y d,i≤k→ops[k]? =some y→y.dst=some d→d ∉ o.looksAt ops
 own:∀ k y d,i < k→ops[k]? =some y→y.dst=some d→o.dst≠some d
theorem ZfJ {ops:Array Oper} {i:Nat} {o:Oper} (h:ZhU ops i o=true):Still ops i o:=by
 have main:∀ k y d,i≤k→ops[k]? =some y→y.dst=some d→((o.looksAt ops).contains d=false)∧((k == i || o.dst != some d)=true):=by
  intro k y d hk hy hd
  have hks:k < ops.size:=(Array.getElem?_eq_some_iff.1 hy).1
  have:=List.all_eq_true.1 h k (List.mem_range.2 hks)
  simp only [hy,hd,Bool.or_eq_true,decide_eq_true_eq,Bool.and_eq_true,Bool.not_eq_true'] at this
  rcases this with h1 | ⟨h1,h2⟩
  ·omega
  ·exact ⟨h1,by simpa using h2⟩
 constructor
 ·intro k y d hk hy hd hm
  have:=(main k y d hk hy hd).1
  simp at this
  exact this hm
 ·intro k y d hk hy hd hm
  have:=(main k y d Ya hy hd).2
  simp only [Bool.or_eq_true,beq_iff_eq] at this
  rcases this with h1 | h1
  ·omega
  ·simp [hm] at h1
def Zfg (pure:Pu) (dy:List (Nat × Nat)) (ops:Array Oper):Bool :=
 let ps:=Zbd ops ops.size
 (List.range ops.size).all fun i=>match ops[i]? with
   | none=>true
   | some y=>y.after.toList.all (fun e=> !ahead e || decide (e.on < i)) && (List.range i).all fun j=>(ps.getD i 0).testBit j || match ops[j]? with
     | none=>true
     | some x=>x.apart ops y && (ZfX pure x y || (dy.contains (j,i) && ZhU ops j x && ZhU ops i y))
structure ROK (pure:Pu) (dy:List (Nat × Nat)) (ops:Array Oper):Prop where
 back:∀ i y e,ops[i]? =some y→e ∈ y.after.toList→ahead e=true→e.on < i
 pair:∀ j i x y,j < i→ops[j]? =some x→ops[i]? =some y→Before ops j i∨(x.apart ops y=true∧(ZfX pure x y=true∨((j,i) ∈ dy∧Still ops j x∧Still ops i y)))
theorem Zha {pure:Pu} {dy:List (Nat × Nat)} {ops:Array Oper} (h:Zfg pure dy ops=true):ROK pure dy ops:=by
 have main:∀ i y,ops[i]? =some y→(y.after.toList.all (fun e=> !ahead e || decide (e.on < i))=true) ∧
   ((List.range i).all (fun j=>((Zbd ops ops.size).getD i 0).testBit j || match ops[j]? with
   | none=>true
   | some x=>x.apart ops y && (ZfX pure x y || (dy.contains (j,i) && ZhU ops j x && ZhU ops i y)))=true):=by
  intro i y hy
  have hi:i < ops.size:=(Array.getElem?_eq_some_iff.1 hy).1
  have:=List.all_eq_true.1 h i (List.mem_range.2 hi)
  simp only [hy,Bool.and_eq_true] at this
  exact this
 constructor
 ·intro i y e hy he hb
  have:=List.all_eq_true.1 (main i y hy).1 e he
  simpa [hb] using this
 ·intro j i x y hji hx hy
  have:=List.all_eq_true.1 (main i y hy).2 j (List.mem_range.2 hji)
  simp only [hx,Bool.or_eq_true,Bool.and_eq_true] at this
  rcases this with h1 | ⟨h1,h2⟩
  ·left
   exact ZdB ops _ i j h1
  ·right
   refine ⟨h1,h2.imp id fun ⟨⟨h3,h4⟩,h5⟩=>⟨by simpa using h3,ZfJ h4,ZfJ h5⟩⟩
def Down (ops:Array Oper) (L:Nat→Bool):Prop:=∀ i o e,ops[i]? =some o→L i=true→e ∈ o.after.toList→ahead e=true→L e.on=true
theorem Down.before {ops:Array Oper} {L:Nat→Bool} (hd:Down ops L) {j i:Nat} (h:Before ops j i):L i=true→L j=true:=by
 induction h with
 | edge ho he hb=>exact fun hi=>hd _ _ _ ho hi he hb
 | far ho he hb _ ih=>exact fun hi=>ih (hd _ _ _ ho hi he hb)
def Ready (ops:Array Oper) (L:Nat→Bool) (i:Nat):Prop:=L i=false∧∃ o,ops[i]? =some o∧∀ e ∈ o.after.toList,ahead e=true→L e.on=true
theorem Down.ready {ops:Array Oper} {L:Nat→Bool} (hd:Down ops L) {j i:Nat} (h:Before ops j i) (hr:Ready ops L i):L j=true:=by
 obtain ⟨_,o,ho,hall⟩:=hr
 cases h with
 | edge ho' he hb=>rw [ho] at ho';cases ho';exact hall _ he hb
 | far ho' he hb h=>rw [ho] at ho';cases ho';exact hd.before h (hall _ he hb)
def left (L:Nat→Bool):Nat→Nat
 | 0=>0
 | k+1=>left L k+if L k then 0 else 1
theorem Zih {L:Nat→Bool}:∀ {k},left L k=0→∀ i,i < k→L i=true
 | 0,_,i,hi=>by omega
 | k+1,h,i,hi=>by
   simp only [left] at h
   by_cases e:i=k
   ·subst e
    cases hl:L i with
    | true=>rfl
    | false=>simp [hl] at h
   ·exact Zih (k:=k) Ya i Ya
theorem Zkh {L M:Nat→Bool} {i:Nat} (hL:L i=false) (hM:M i=true) (hs:∀ j,j≠i→M j=L j):∀ k,i < k→left L k=left M k+1
 | 0,h=>by omega
 | k+1,h=>by
   have below:∀ m,m≤i→left L m=left M m:=by
    intro m
    induction m with
    | zero=>intro _;rfl
    | succ m ih=>intro hm;simp only [left,ih Ya,hs m Ya]
   by_cases e:i=k
   ·subst e
    simp [left,below i (Nat.le_refl _),hL,hM]
   ·simp only [left,Zkh hL hM hs k Ya,hs k (fun h=>e h.symm)]
    omega
def ZeR (ops:Array Oper) (k:Nat):Option Tmp:=(ops[k]?).bind (·.dst)
def wrt (pure:Pu) (ops:Array Oper) (k:Nat):Bool:=match ops[k]? with
 | some o=>writes pure o.op
 | none=>false
def vs (ops:Array Oper) (E0:Env) (V:Nat→Value) (L:Nat→Bool):Nat→Nat→Value
 | 0,t=>E0.get t
 | k+1,t=>if L k=true∧ZeR ops k=some t∧t < E0.size then V k else vs ops E0 V L k t
def bs (pure:Pu) (ops:Array Oper) (H:Nat→Heap) (L:Nat→Bool):Nat→Nat→Blk
 | 0,b=>(H 0).get b
 | k+1,b=>if L k=true∧(wrt pure ops k=true∨(H k).size≤b∧b < (H (k+1)).size) then (H (k+1)).get b else bs pure ops H L k b
section
variable {P:Program} {T:Tied} {low:Nat} {pure:Pu} {call:Nat→FuncId→Array Value→Heap→Option (Value × Heap)} {ops:Array Oper}
variable {E:Nat→Env} {H:Nat→Heap} {V:Nat→Value}
def rdAt (ops:Array Oper) (E:Nat→Env) (H:Nat→Heap) (i:Nat):Option (List Nat):=match ops[i]? with
 | some o=>ZeC ops (H 0).size o (E i)
 | none=>none
def Zgp (H:Nat→Heap) (k b:Nat):Prop:=(H (k+1)).get b=(H k).get b
def Dyn (pure:Pu) (ops:Array Oper) (E:Nat→Env) (H:Nat→Heap) (j i:Nat) (x y:Oper):Prop :=
 (∃ r,rdAt ops E H j=some r∧writes pure y.op=true∧∀ b,b ∈ r→Zgp H i b) ∨
 (∃ r,rdAt ops E H i=some r∧writes pure x.op=true∧∀ b,b ∈ r→Zgp H j b) ∨
 (makes x.op=true∧writes pure y.op=true∧∀ b,(H j).size≤b→b < (H (j+1)).size→Zgp H i b)
theorem ZaS {ops:Array Oper} {E:Nat→Env} {H:Nat→Heap} {i:Nat} {o:Oper} {r:List Nat} (ho:ops[i]? =some o) (h:rdAt ops E H i=some r) :
  (∀ pure,writes pure o.op=false)∧makes o.op=false∧Op.touches o.op=true:=by
 simp only [rdAt,ho] at h
 unfold ZeC at h
 split at h
 ·cases h
 ·split at h
  ·rename_i e;first | (simp [e,writes,makes,Op.touches];done) | (simp [e,writes,makes,Op.touches];intro hh;simp [hh] at h)
  ·rename_i e;first | (simp [e,writes,makes,Op.touches];done) | (simp [e,writes,makes,Op.touches];intro hh;simp [hh] at h)
  ·rename_i e;first | (simp [e,writes,makes,Op.touches];done) | (simp [e,writes,makes,Op.touches];intro hh;simp [hh] at h)
  ·cases h
 ·split at h
  ·rename_i e;first | (simp [e,writes,makes,Op.touches];done) | (simp [e,writes,makes,Op.touches];intro hh;simp [hh] at h)
  ·rename_i e;first | (simp [e,writes,makes,Op.touches];done) | (simp [e,writes,makes,Op.touches];intro hh;simp [hh] at h)
  ·rename_i e;first | (simp [e,writes,makes,Op.touches];done) | (simp [e,writes,makes,Op.touches];intro hh;simp [hh] at h)
  ·cases h
theorem Zbr {pure:Pu} {op:Op} (h:writes pure op=true):makes op=false:=by
 cases op<;>simp [writes,makes] at h ⊢
structure Run (P:Program) (low:Nat) (pure:Pu) (call:Nat→FuncId→Array Value→Heap→Option (Value × Heap)) (ops:Array Oper) (E:Nat→Env) (H:Nat→Heap) (V:Nat→Value) (T:Tied):Prop where
 calls:CallOK P T call
 start:low≤(H 0).size
 back:∀ i y e,ops[i]? =some y→e ∈ y.after.toList→ahead e=true→e.on < i
 pair:∀ j i x y,j < i→ops[j]? =some x→ops[i]? =some y→Before ops j i∨(x.apart ops y=true∧(ZfX pure x y=true∨Dyn pure ops E H j i x y))
 step:∀ i o,ops[i]? =some o→Zcz P low pure call ops o (E i) (H i) (V i) (H (i+1))
 slot:∀ i o,ops[i]? =some o→E (i+1)=(E i).put o.dst (V i)
variable (R:Run P low pure call ops E H V T)
include R
theorem Run.grows {i:Nat} (hi:i≤ops.size):(H 0).size≤(H i).size∧low≤(H i).size:=by
 induction i with
 | zero=>exact ⟨Nat.le_refl _,R.start⟩
 | succ i ih =>
   obtain ⟨h1,h2⟩:=ih Ya
   have ho:ops[i]? =some ops[i]:=Array.getElem?_eq_getElem Ya
   have:=(R.step i _ ho).keeps R.calls h2
   omega
theorem Run.mono {i j:Nat} (hij:i≤j) (hj:j≤ops.size):(H i).size≤(H j).size:=by
 induction j with
 | zero =>
   have:i=0:=by omega
   subst this
   exact Nat.le_refl _
 | succ j ih =>
   by_cases e:i=j+1
   ·subst e;exact Nat.le_refl _
   ·have h1:=ih Ya Ya
    have ho:ops[j]? =some ops[j]:=Array.getElem?_eq_getElem Ya
    have:=(R.step j _ ho).keeps R.calls (R.grows Ya).2
    omega
theorem Run.still {i b:Nat} (hi:i < ops.size) (hw:wrt pure ops i=false) (hb:b < (H i).size):(H (i+1)).get b=(H i).get b:=by
 have ho:ops[i]? =some ops[i]:=Array.getElem?_eq_getElem hi
 have hk:=(R.step i _ ho).keeps R.calls (R.grows Ya).2
 refine hk.2 b ?_
 simp only [wrt,ho] at hw
 simp only [lowest,hw,Bool.false_eq_true,if_false]
 exact hb
theorem Run.ZqW {i:Nat} (hi:i≤ops.size):(E i).size=(E 0).size:=by
 induction i with
 | zero=>rfl
 | succ i ih =>
   have ho:ops[i]? =some ops[i]:=Array.getElem?_eq_getElem Ya
   rw [R.slot i _ ho,Env.size_put,ih Ya]
theorem Run.two {L:Nat→Bool} (hd:Down ops L) {i k:Nat} {x y:Oper} (hr:Ready ops L i) (hx:ops[i]? =some x) (hy:ops[k]? =some y) :
  (i < k→L k=true→x.apart ops y=true∧(ZfX pure x y=true∨Dyn pure ops E H i k x y))∧(k < i→L k=false→y.apart ops x=true∧(ZfX pure y x=true∨Dyn pure ops E H k i y x)):=by
 constructor
 ·intro hik hk
  rcases R.pair i k x y hik hx hy with h | h
  ·exact absurd (hd.before h hk) (by rw [hr.1];simp)
  ·exact h
 ·intro hki hk
  rcases R.pair k i y x hki hy hx with h | h
  ·exact absurd (hd.ready h hr) (by rw [hk];simp)
  ·exact h
theorem Run.ZnN {L:Nat→Bool} (hd:Down ops L) {i:Nat} {o:Oper} (hr:Ready ops L i) (ho:ops[i]? =some o) {t:Nat} (ht:t ∈ o.looksAt ops):vs ops (E 0) V L ops.size t=(E i).get t:=by
 have hi:i < ops.size:=(Array.getElem?_eq_some_iff.1 ho).1
 have first:∀ k,k≤i→vs ops (E 0) V L k t=(E k).get t:=by
  intro k
  induction k with
  | zero=>intro _;rfl
  | succ k ih =>
    intro hk
    have hy:ops[k]? =some ops[k]:=Array.getElem?_eq_getElem Ya
    have hd0:ZeR ops k=(ops[k]' Ya).dst:=by simp [ZeR,hy]
    simp only [vs,R.slot k _ hy]
    cases hdst:(ops[k]' Ya).dst with
    | none =>
      rw [hd0,hdst]
      simp only [reduceCtorEq,false_and,and_false,if_false,Env.put]
      exact ih Ya
    | some d =>
      rw [hd0,hdst,Env.get_put,R.ZqW (i:=k) Ya]
      by_cases e:t=d
      ·subst e
       by_cases hs:t < (E 0).size
       ·have hL:L k=true:=by
         cases hl:L k with
         | true=>rfl
         | false =>
           have hap:=((R.two hd hr ho hy).2 Ya hl).1
           exact absurd ht ((Oper.apart_spec hap).1 t hdst)
        simp [hL,hs]
       ·simp only [hs,and_false,false_and,if_false]
        exact ih Ya
      ·have:¬ (some d=some t):=fun h=>e (by cases h;rfl)
       simp only [this,false_and,and_false,if_false,e]
       exact ih Ya
 have rest:∀ k,i≤k→k≤ops.size→vs ops (E 0) V L k t=vs ops (E 0) V L i t:=by
  intro k
  induction k with
  | zero =>
    intro h1 _
    have:i=0:=by omega
    subst this;rfl
  | succ k ih =>
    intro h1 h2
    by_cases e:i=k+1
    ·subst e;rfl
    ·have hy:ops[k]? =some ops[k]:=Array.getElem?_eq_getElem Ya
     simp only [vs]
     rw [if_neg,ih Ya Ya]
     rintro ⟨hL,hdst,hs⟩
     have hne:i≠k:=fun h=>by subst h;rw [hr.1] at hL;cases hL
     have hap:=((R.two hd hr ho hy).1 Ya hL).1
     have hdst':(ops[k]' Ya).dst=some t:=by simpa [ZeR,hy] using hdst
     exact absurd ht ((Oper.apart_spec hap).2.2 t hdst')
 rw [rest ops.size Ya (Nat.le_refl _)]
 exact first i (Nat.le_refl _)
theorem Run.Zr2 {L M:Nat→Bool} (hd:Down ops L) {i:Nat} {o:Oper} (hr:Ready ops L i) (ho:ops[i]? =some o) (hM:M i=true) (hs:∀ j,j≠i→M j=L j) (t:Nat) :
  vs ops (E 0) V M ops.size t=if o.dst=some t∧t < (E 0).size then V i else vs ops (E 0) V L ops.size t:=by
 have hi:i < ops.size:=(Array.getElem?_eq_some_iff.1 ho).1
 have hdi:ZeR ops i=o.dst:=by simp [ZeR,ho]
 have key:∀ k,k≤ops.size→vs ops (E 0) V M k t=if i < k∧o.dst=some t∧t < (E 0).size then V i else vs ops (E 0) V L k t:=by
  intro k
  induction k with
  | zero=>intro _;simp [vs]
  | succ k ih =>
    intro hk
    have ih:=ih Ya
    simp only [vs]
    by_cases e:k=i
    ·subst e
     simp only [hM,true_and,hr.1,Bool.false_eq_true,false_and,if_false,hdi,Nat.lt_succ_self]
     by_cases hc:o.dst=some t∧t < (E 0).size
     ·simp [hc]
     ·rw [if_neg hc,if_neg hc,ih]
      have:¬ (k < k∧o.dst=some t∧t < (E 0).size):=by omega
      rw [if_neg this]
    ·rw [hs k e]
     by_cases hc:L k=true∧ZeR ops k=some t∧t < (E 0).size
     ·rw [if_pos hc,if_pos hc]
      have hy:ops[k]? =some ops[k]:=Array.getElem?_eq_getElem Ya
      have hno:¬ (i < k+1∧o.dst=some t∧t < (E 0).size):=by
       rintro ⟨h1,h2,_⟩
       have hap:=((R.two hd hr ho hy).1 Ya hc.1).1
       have hdst':(ops[k]' Ya).dst=some t:=by simpa [ZeR,hy] using hc.2.1
       exact (Oper.apart_spec hap).2.1 t h2 hdst'
      rw [if_neg hno]
     ·rw [if_neg hc,if_neg hc,ih]
      by_cases h2:i < k
      ·have:i < k+1:=by omega
       simp [h2,this]
      ·have:¬ i < k+1:=by omega
       simp [h2,this]
 have:=key ops.size (Nat.le_refl _)
 simpa [hi] using this
theorem Run.Zr3 {L:Nat→Bool} (hall:∀ i,i < ops.size→L i=true) (t:Nat):∀ k,k≤ops.size→vs ops (E 0) V L k t=(E k).get t:=by
 intro k
 induction k with
 | zero=>intro _;rfl
 | succ k ih =>
   intro hk
   have hy:ops[k]? =some ops[k]:=Array.getElem?_eq_getElem Ya
   have hd0:ZeR ops k=(ops[k]' Ya).dst:=by simp [ZeR,hy]
   simp only [vs,R.slot k _ hy,hall k Ya,true_and,hd0]
   cases hdst:(ops[k]' Ya).dst with
   | none=>simp only [reduceCtorEq,false_and,if_false,Env.put];exact ih Ya
   | some d =>
     rw [Env.get_put,R.ZqW (i:=k) Ya]
     by_cases e:t=d
     ·subst e
      by_cases hs:t < (E 0).size
      ·simp [hs]
      ·simp [hs,ih Ya]
     ·have:¬ (some d=some t):=fun h=>e (by cases h;rfl)
      simp [this,e,ih Ya]
end
end Go.Im
namespace Go.Im
theorem Zle {P:Program} {sz:Nat} {op:Op} {ρ:Operand→Value} {v:Value} {x:Blk} (h:iop0 P sz op ρ=some (v,some x)):makes op=true:=by
 unfold iop0 at h
 simp only at h
 split at h
 all_goals (first | rfl | skip)
 all_goals (repeat' (split at h))
 all_goals (cases h)
theorem ZbN {op:Op} (h:makes op=true):Op.touches op=false:=by
 cases op<;>simp [makes,Op.touches] at h ⊢
def ZbM (φ:Zac) (s:Nat):Zac:=fun b=>if b < s then φ b else none
theorem Zar {φ:Zac} {s b:Nat} {l:Loc} (h:ZbM φ s b=some l):b < s∧φ b=some l:=by
 unfold ZbM at h
 split at h
 ·exact ⟨by assumption,h⟩
 ·cases h
theorem Zg9 {φ:Zac} {s b:Nat} {l:Loc} (hb:b < s) (h:φ b=some l):ZbM φ s b=some l:=by simp [ZbM,hb,h]
theorem ZbB {φ ψ:Zac} {s t:Nat} (hst:s≤t) (h:∀ b l,φ b=some l→ψ b=some l):∀ b l,ZbM φ s b=some l→ZbM ψ t b=some l:=by
 intro b l hb
 obtain ⟨h1,h2⟩:=Zar hb
 exact Zg9 Ya (h b l h2)
section
variable {P:Program} {T:Tied} {low:Nat} {pure:Pu} {call:Nat→FuncId→Array Value→Heap→Option (Value × Heap)} {ops:Array Oper}
variable {E:Nat→Env} {H:Nat→Heap} {V:Nat→Value}
def Dom (ops:Array Oper) (H:Nat→Heap) (L:Nat→Bool) (b:Nat):Prop:=b < (H 0).size∨∃ j,j < ops.size∧L j=true∧(H j).size≤b∧b < (H (j+1)).size
section
variable (R:Run P low pure call ops E H V T)
include R
theorem Run.one {j k b:Nat} (hj:j < ops.size) (hk:k < ops.size) (h1:(H j).size≤b) (h2:b < (H (j+1)).size) (h3:(H k).size≤b) (h4:b < (H (k+1)).size):j=k:=by
 rcases Nat.lt_trichotomy j k with h | h | h
 ·have:=R.mono (i:=j+1) (j:=k) Ya Ya;omega
 ·exact h
 ·have:=R.mono (i:=k+1) (j:=j) Ya Ya;omega
theorem Run.ZcM {i:Nat} {o:Oper} (ho:ops[i]? =some o):wrt pure ops i=writes pure o.op:=by simp [wrt,ho]
theorem Run.Zd3 {L:Nat→Bool} (hd:Down ops L) {i:Nat} {o:Oper} (hr:Ready ops L i) (ho:ops[i]? =some o) (ht:Op.touches o.op=true) (hn:rdAt ops E H i=none) {k:Nat} (hk:k < ops.size) (hL:L k=true)
  (hw:wrt pure ops k=true):k < i:=by
 rcases Nat.lt_trichotomy k i with h | h | h
 ·exact h
 ·subst h;rw [hr.1] at hL;cases hL
 ·exfalso
  have hy:ops[k]? =some ops[k]:=Array.getElem?_eq_getElem hk
  have:=((R.two hd hr ho hy).1 h hL).2
  rw [R.ZcM hy] at hw
  rcases this with this | ⟨r,h1,_,_⟩ | ⟨r,h1,_,_⟩ | ⟨h1,_,_⟩
  ·unfold ZfX at this
   rw [hw] at this
   simp [ht] at this
  ·rw [hn] at h1;cases h1
  ·rw [(ZaS hy h1).1 pure] at hw;cases hw
  ·rw [ZbN h1] at ht;cases ht
theorem Run.Zf2 {L:Nat→Bool} (hd:Down ops L) {i:Nat} {o:Oper} (hr:Ready ops L i) (ho:ops[i]? =some o) {b:Nat}
  (hc:(∃ r,rdAt ops E H i=some r∧b ∈ r)∨(makes o.op=true∧(H i).size≤b∧b < (H (i+1)).size)) {k:Nat} (hk:k < ops.size) (hik:i < k) (hL:L k=true) (hw:wrt pure ops k=true):Zgp H k b:=by
 have hy:ops[k]? =some ops[k]:=Array.getElem?_eq_getElem hk
 have:=((R.two hd hr ho hy).1 hik hL).2
 rw [R.ZcM hy] at hw
 rcases this with this | ⟨r,h1,h2,h3⟩ | ⟨r,h1,_,_⟩ | ⟨h1,h2,h3⟩
 ·exfalso
  unfold ZfX at this
  rw [hw] at this
  rcases hc with ⟨r,h1,_⟩ | ⟨h1,_⟩
  ·simp [(ZaS ho h1).2.2] at this
  ·simp [h1] at this
 ·rcases hc with ⟨r',h1',hb⟩ | ⟨h1',_⟩
  ·rw [h1] at h1';cases h1'
   exact h3 b hb
  ·rw [(ZaS ho h1).2.1] at h1';cases h1'
 ·rw [(ZaS hy h1).1 pure] at hw;cases hw
 ·rcases hc with ⟨r',h1',hb⟩ | ⟨h1',h4,h5⟩
  ·rw [(ZaS ho h1').2.1] at h1;cases h1
  ·exact h3 b h4 h5
theorem Run.chain {i b:Nat}:∀ m,i≤m→(∀ k,i≤k→k < m→Zgp H k b)→(H m).get b=(H i).get b
 | 0,him,_=>by
   have:i=0:=by omega
   rw [this]
 | m+1,him,h=>by
   by_cases e:i=m+1
   ·rw [e]
   ·rw [show (H (m+1)).get b=(H m).get b from h m Ya Ya]
    exact Run.chain m Ya fun k h1 h2=>h k h1 Ya
theorem Run.through {L:Nat→Bool} (hd:Down ops L) {i:Nat} {o:Oper} (hr:Ready ops L i) (ho:ops[i]? =some o) {b:Nat}
  (hc:(∃ r,rdAt ops E H i=some r∧b ∈ r)∨(makes o.op=true∧(H i).size≤b∧b < (H (i+1)).size)) {k:Nat} (hk:k < ops.size) (hik:i < k) (hL:L k=true) (hw:wrt pure ops k=true) (hb:b < (H (i+1)).size) :
  (H (k+1)).get b=(H (i+1)).get b:=by
 refine R.chain (k+1) Ya ?_
 intro q h1 h2
 have hq:q < ops.size:=Ya
 have hyq:ops[q]? =some ops[q]:=Array.getElem?_eq_getElem hq
 have hy:ops[k]? =some ops[k]:=Array.getElem?_eq_getElem hk
 cases hwq:wrt pure ops q with
 | false=>exact R.still hq hwq (by have:=R.mono (i:=i+1) (j:=q) Ya Ya;omega)
 | true =>
   cases hLq:L q with
   | true=>exact R.Zf2 hd hr ho hc hq Ya hLq hwq
   | false =>
     exfalso
     have hqk:q < k:=by
      rcases Nat.lt_or_ge q k with h | h
      ·exact h
      ·have:q=k:=by omega
       subst this
       rw [hL] at hLq;cases hLq
     rw [R.ZcM hyq] at hwq
     rw [R.ZcM hy] at hw
     rcases R.pair q k _ _ hqk hyq hy with h | ⟨_,h | ⟨r,h3,_⟩ | ⟨r,h3,_⟩ | ⟨h3,_⟩⟩
     ·rw [hd.before h hL] at hLq;cases hLq
     ·unfold ZfX at h
      simp [hwq,Za9 hw] at h
     ·rw [(ZaS hyq h3).1 pure] at hwq;cases hwq
     ·rw [(ZaS hy h3).1 pure] at hw;cases hw
     ·rw [Zbr hwq] at h3;cases h3
theorem Run.ZhG {L:Nat→Bool} (hd:Down ops L) {i:Nat} {o:Oper} (hr:Ready ops L i) (ho:ops[i]? =some o) (ht:Op.touches o.op=true) {b:Nat} (hn:∀ r,rdAt ops E H i=some r→b ∈ r) (hdom:Dom ops H L b) (hb:b < (H i).size) :
  bs pure ops H L ops.size b=(H i).get b:=by
 have hi:i < ops.size:=(Array.getElem?_eq_some_iff.1 ho).1
 have first:∀ k,k≤i→b < (H k).size→bs pure ops H L k b=(H k).get b:=by
  intro k
  induction k with
  | zero=>intro _ _;rfl
  | succ k ih =>
    intro hk hbk
    have hy:ops[k]? =some ops[k]:=Array.getElem?_eq_getElem Ya
    simp only [bs]
    by_cases hbk':b < (H k).size
    ·cases hw:wrt pure ops k with
     | true =>
       cases hl:L k with
       | true=>simp
       | false =>
         have:¬ (false=true∧(True∨(H k).size≤b∧b < (H (k+1)).size)):=by simp
         simp only [Bool.false_eq_true,false_and,if_false]
         rw [ih Ya hbk']
         have:=((R.two hd hr ho hy).2 Ya hl).2
         rw [R.ZcM hy] at hw
         rcases this with this | ⟨r,h1,_⟩ | ⟨r,h1,_,h3⟩ | ⟨h1,_⟩
         ·unfold ZfX at this
          simp [hw,ht] at this
         ·rw [(ZaS hy h1).1 pure] at hw;cases hw
         ·exact (h3 b (hn r h1)).symm
         ·rw [Zbr hw] at h1;cases h1
     | false =>
       have:¬ (L k=true∧(false=true∨(H k).size≤b∧b < (H (k+1)).size)):=by
        rintro ⟨_,h | h⟩
        ·cases h
        ·omega
       rw [if_neg this,ih Ya hbk',R.still Ya hw hbk']
    ·have hL:L k=true:=by
      rcases hdom with h | ⟨j,hj,hLj,h1,h2⟩
      ·have:=(R.grows (i:=k) Ya).1;omega
      ·have:=R.one hj Ya h1 h2 Ya hbk
       subst this
       exact hLj
     have:(H k).size≤b∧b < (H (k+1)).size:=⟨by omega,hbk⟩
     simp [hL,this]
 have rest:∀ k,i≤k→k≤ops.size→bs pure ops H L k b=(H i).get b:=by
  intro k
  induction k with
  | zero =>
    intro h1 _
    have:i=0:=by omega
    subst this;rfl
  | succ k ih =>
    intro h1 h2
    by_cases e:i=k+1
    ·subst e;exact first _ (Nat.le_refl _) hb
    ·simp only [bs]
     by_cases hc:L k=true∧(wrt pure ops k=true∨(H k).size≤b∧b < (H (k+1)).size)
     ·rw [if_pos hc]
      obtain ⟨hL,hw | hw⟩:=hc
      ·cases hrd:rdAt ops E H i with
       | none=>have:=R.Zd3 hd hr ho ht hrd Ya hL hw;omega
       | some r =>
         have hne:i≠k:=fun h=>by subst h;rw [hr.1] at hL;cases hL
         have hik:(H (i+1)).size ≥ (H i).size:=R.mono Ya Ya
         rw [R.through hd hr ho (.inl ⟨r,hrd,hn r hrd⟩) Ya Ya hL hw Ya]
         refine R.still hi ?_ hb
         rw [R.ZcM ho]
         exact (ZaS ho hrd).1 pure
      ·have:=R.mono (i:=i) (j:=k) Ya Ya;omega
     ·rw [if_neg hc]
      exact ih Ya Ya
 exact rest ops.size Ya (Nat.le_refl _)
theorem Run.Zrd {L M:Nat→Bool} {i:Nat} (hL:L i=false) (hs:∀ j,j≠i→M j=L j) (hi:i < ops.size) (hw:wrt pure ops i=false) {b:Nat} (hb:¬ ((H i).size≤b∧b < (H (i+1)).size)) :
  ∀ k,bs pure ops H M k b=bs pure ops H L k b:=by
 intro k
 induction k with
 | zero=>rfl
 | succ k ih =>
   simp only [bs]
   by_cases e:k=i
   ·subst e
    have h1:¬ (M k=true∧(wrt pure ops k=true∨(H k).size≤b∧b < (H (k+1)).size)):=by
     rintro ⟨_,h | h⟩
     ·rw [hw] at h;cases h
     ·exact hb h
    have h2:¬ (L k=true∧(wrt pure ops k=true∨(H k).size≤b∧b < (H (k+1)).size)):=by rw [hL];simp
    rw [if_neg h1,if_neg h2,ih]
   ·rw [hs k e,ih]
theorem Run.ZpK {L M:Nat→Bool} (hd:Down ops L) {i:Nat} {o:Oper} (hr:Ready ops L i) (ho:ops[i]? =some o) (hM:M i=true) (hs:∀ j,j≠i→M j=L j)
  (ht:(Op.touches o.op=true∧rdAt ops E H i=none)∨makes o.op=true) {b:Nat}
  (hb:b < (H (i+1)).size) (hw:wrt pure ops i=true∨(H i).size≤b):bs pure ops H M ops.size b=(H (i+1)).get b:=by
 have hi:i < ops.size:=(Array.getElem?_eq_some_iff.1 ho).1
 have key:∀ k,i+1≤k→k≤ops.size→bs pure ops H M k b=(H (i+1)).get b:=by
  intro k
  induction k with
  | zero=>intro h _;omega
  | succ k ih =>
    intro h1 h2
    simp only [bs]
    by_cases e:k=i
    ·subst e
     rw [if_pos ⟨hM,hw.imp id fun h=>⟨h,hb⟩⟩]
    ·by_cases hc:M k=true∧(wrt pure ops k=true∨(H k).size≤b∧b < (H (k+1)).size)
     ·rw [if_pos hc]
      rw [hs k e] at hc
      obtain ⟨hL,h | h⟩:=hc
      ·rcases ht with ⟨ht,hn⟩ | hm
       ·have:=R.Zd3 hd hr ho ht hn Ya hL h;omega
       ·have hge:(H i).size≤b:=by
         rcases hw with hw | hw
         ·rw [R.ZcM ho] at hw;rw [Zbr hw] at hm;cases hm
         ·exact hw
        exact R.through hd hr ho (.inr ⟨hm,hge,hb⟩) Ya Ya hL h hb
      ·have:=R.mono (i:=i+1) (j:=k) Ya Ya;omega
     ·rw [if_neg hc]
      exact ih Ya Ya
 exact key _ Ya (Nat.le_refl _)
theorem Run.Zre {L M:Nat→Bool} {i:Nat} (hs:∀ j,j≠i→M j=L j) {j b:Nat} (hj:j < ops.size) (hij:i < j) (hL:L j=true) (h1:(H j).size≤b) (h2:b < (H (j+1)).size) :
  bs pure ops H M ops.size b=bs pure ops H L ops.size b:=by
 have key:∀ k,j+1≤k→k≤ops.size→bs pure ops H M k b=bs pure ops H L k b:=by
  intro k
  induction k with
  | zero=>intro h _;omega
  | succ k ih =>
    intro hk1 hk2
    simp only [bs]
    rw [hs k Ya]
    by_cases e:k=j
    ·subst e
     rw [if_pos ⟨hL,.inr ⟨h1,h2⟩⟩,if_pos ⟨hL,.inr ⟨h1,h2⟩⟩]
    ·rw [ih Ya Ya]
 exact key _ Ya (Nat.le_refl _)
theorem Run.Ztg {L:Nat→Bool} (hall:∀ i,i < ops.size→L i=true) {b:Nat}:∀ k,k≤ops.size→b < (H k).size→bs pure ops H L k b=(H k).get b:=by
 intro k
 induction k with
 | zero=>intro _ _;rfl
 | succ k ih =>
   intro hk hb
   simp only [bs,hall k Ya,true_and]
   by_cases hc:wrt pure ops k=true∨(H k).size≤b∧b < (H (k+1)).size
   ·rw [if_pos hc]
   ·rw [if_neg hc]
    have hw:wrt pure ops k=false:=by
     cases hw:wrt pure ops k with
     | true=>exact absurd (.inl hw) hc
     | false=>rfl
    have hb':b < (H k).size:=Nat.lt_of_not_le fun h=>hc (.inr ⟨h,hb⟩)
    rw [ih Ya hb',R.still Ya hw hb']
end
theorem RV.shrink {φ ψ:Zac} (hx:∀ b l,φ b=some l→ψ b=some l) {v v1:Value} (h:RV φ v v1):∀ {v2:Value},RV ψ v v2→RV φ v v2:=by
 have at_:∀ {b:Nat} {l m:Loc},φ b=some l→ψ b=some m→φ b=some m:=by
  intro b l m h1 h2
  rw [hx b l h1] at h2
  cases h2
  exact h1
 induction h with
 | bad v=>intro v2 _;exact .bad _
 | bool b=>intro v2 h2;cases h2;exact .bool b
 | int k n=>intro v2 h2;cases h2;exact .int k n
 | float k n=>intro v2 h2;cases h2;exact .float k n
 | string s=>intro v2 h2;cases h2;exact .string s
 | nilPtr=>intro v2 h2;cases h2;exact .nilPtr
 | ptr b o l h=>intro v2 h2;cases h2;rename_i m h3;exact .ptr b o m (at_ h h3)
 | nilSlice=>intro v2 h2;cases h2;exact .nilSlice
 | known b o n c l h hc hn ho =>
   intro v2 h2
   cases h2 with
   | known _ _ _ _ m h3 hc hn ho=>exact .known b o n c m (at_ h h3) hc hn ho
   | unknown _ _ _ _ m h3=>exact absurd hc YT
   | spent _ _ m a h3=>exact absurd hc YT
   | void _ _ a=>exact .void b o a
 | unknown b o n c l h hn ho he hc =>
   intro v2 h2
   generalize hbig:big=g at h2
   cases h2 with
   | known _ _ _ _ m h3 hc=>exact absurd hc Ya
   | unknown _ _ _ c' m h3 a1 a2 a3 a4=>exact .unknown b o n c' m (at_ h h3) a1 a2 a3 a4
   | spent _ _ m a h3 ho3=>exact .spent b o m a (at_ h h3) ho3
   | void _ _ a=>exact absurd hbig YT
 | spent b o l a h ho =>
   intro v2 h2
   generalize hbig:big=g at h2
   cases h2 with
   | known _ _ _ _ m h3 hc=>exact absurd hc Ya
   | unknown _ _ _ c' m h3 a1 a2 a3 a4=>exact .unknown b o 0 c' m (at_ h h3) a1 a2 a3 a4
   | spent _ _ m a h3 ho3=>exact .spent b o m a (at_ h h3) ho3
   | void _ _ a=>exact absurd hbig YT
 | void b o a =>
   intro v2 h2
   have key:∀ {u},RV ψ u v2→u= .slice (some ⟨b,o,none⟩) 0 0→RV φ (.slice (some ⟨b,o,none⟩) 0 0) v2:=by
    intro u hu
    cases hu<;>intro he<;>(first | (cases he;done) | (simp [big] at he;done) | skip)
    ·simp only [Value.slice.injEq] at he
     obtain ⟨_,rfl,rfl⟩:=he
     exact .void b o _
    ·exact .void b o _
   exact key h2 rfl
 | nilMap=>intro v2 h2;cases h2;exact .nilMap
 | map r l h=>intro v2 h2;cases h2;rename_i m h3;exact .map r m (at_ h h3)
 | nilFunc=>intro v2 h2;cases h2;exact .nilFunc
 | nilIface=>intro v2 h2;cases h2;exact .nilIface
 | func fn f f' c c' hf hc rf rc ihf ihc =>
   intro v2 h2
   cases h2 with
   | func _ _ f2 _ c2 hf2 hc2 rf2 rc2 =>
     refine .func fn f f2 c c2 hf2 hc2 ?_ ?_
     ·intro i x y hx1 hy
      have hi:i < f'.toList.length:=by rw [← hf];exact (List.getElem?_eq_some_iff.1 hx1).1
      exact ihf i x _ hx1 (List.getElem?_eq_getElem hi) (rf2 i x y hx1 hy)
     ·intro i x y hx1 hy
      have hi:i < c'.toList.length:=by rw [← hc];exact (List.getElem?_eq_some_iff.1 hx1).1
      exact ihc i x _ hx1 (List.getElem?_eq_getElem hi) (rc2 i x y hx1 hy)
 | iface t v v' _ ih=>intro v2 h2;cases h2;rename_i h3;exact .iface t v _ (ih h3)
 | agg xs ys hs _ ih =>
   intro v2 h2
   cases h2 with
   | agg _ zs hs2 r2 =>
     refine .agg xs zs hs2 fun i x y hx1 hy=> ?_
     have hi:i < ys.toList.length:=by rw [← hs];exact (List.getElem?_eq_some_iff.1 hx1).1
     exact ih i x _ hx1 (List.getElem?_eq_getElem hi) (r2 i x y hx1 hy)
 | tuple xs ys hs _ ih =>
   intro v2 h2
   cases h2 with
   | tuple _ zs hs2 r2 =>
     refine .tuple xs zs hs2 fun i x y hx1 hy=> ?_
     have hi:i < ys.toList.length:=by rw [← hs];exact (List.getElem?_eq_some_iff.1 hx1).1
     exact ih i x _ hx1 (List.getElem?_eq_getElem hi) (r2 i x y hx1 hy)
theorem RB.shrink {φ ψ:Zac} (hx:∀ b l,φ b=some l→ψ b=some l) {l:Loc} {x:Blk} {o o':Obj} (h:RB φ l x o) (h':RB ψ l x o'):RB φ l x o':=by
 unfold RB at h h' ⊢
 cases x with
 | dead=>trivial
 | siter s p =>
   cases o'<;>exact h'
 | fixed cs esz =>
   cases o<;>try (exact h.elim)
   cases o'<;>try (exact h'.elim)
   simp only at h h' ⊢
   obtain ⟨a1,a2,a3,a4,a7⟩:=h'
   refine ⟨a1,a2,a3,a4,fun i v hv=> ?_⟩
   obtain ⟨b1,v',b2,b3⟩:=a7 i v hv
   obtain ⟨_,v1,_,c3⟩:=h.2.2.2.2 i v hv
   exact ⟨b1,v',b2,c3.shrink hx b3⟩
 | cells cs esz =>
   cases o<;>try (exact h.elim)
   cases o'<;>try (exact h'.elim)
   simp only at h h' ⊢
   obtain ⟨a1,a2,a3,a4,a5,a6,a7⟩:=h'
   refine ⟨a1,a2,a3,a4,a5,a6,fun i v hv=> ?_⟩
   obtain ⟨b1,v',b2,b3⟩:=a7 i v hv
   obtain ⟨_,v1,_,c3⟩:=h.2.2.2.2.2.2 i v hv
   exact ⟨b1,v',b2,c3.shrink hx b3⟩
 | map es k =>
   cases o<;>try (exact h.elim)
   cases o'<;>try (exact h'.elim)
   simp only at h h' ⊢
   obtain ⟨a1,a2,a3⟩:=h'
   obtain ⟨c1,c2,c3⟩:=h
   refine ⟨a1,a2,fun i e e' he he'=> ?_⟩
   rename_i es1 k1 es2 k2
   have hi:i < es1.toList.length:=by
    have:=(List.getElem?_eq_some_iff.1 he).1
    simp;omega
   obtain ⟨b1,b2,b3⟩:=a3 i e e' he he'
   obtain ⟨_,d2,d3⟩:=c3 i e _ he (List.getElem?_eq_getElem hi)
   exact ⟨b1,d2.shrink hx b2,d3.shrink hx b3⟩
structure Inv (P:Program) (low:Nat) (pure:Pu) (ops:Array Oper) (E:Nat→Env) (H:Nat→Heap) (V:Nat→Value) (φ0:Zac) (a0:Act) (w0:World) (L:Nat→Bool) (a:Act) (w:World) (φ:Zac):Prop where
 down:Down ops L
 tsz:a.tmps.size=(E 0).size
 dfr:a.defers=a0.defers
 slots:∀ t,∃ m,RV (ZbM φ (H m).size) (vs ops (E 0) V L ops.size t) (a.tmps.getD t undef)∧(m=0∨∃ k,k < ops.size∧m=k+1∧L k=true∧ZeR ops k=some t∧t < (E 0).size)
 dom:∀ b l,φ b=some l→Dom ops H L b
 blk:∀ b l,φ b=some l→l.blk < w.heap.size∧∃ o m,w.heap[l.blk]? =some o∧RB (ZbM φ (H m).size) l (bs pure ops H L ops.size b) o ∧
  (m=0∨∃ k,k < ops.size∧m=k+1∧L k=true∧((wrt pure ops k=true∧¬ Zgp H k b)∨(H k).size≤b∧b < (H (k+1)).size))
 inj:∀ b c l m,φ b=some l→φ c=some m→bs pure ops H L ops.size b≠ .dead→bs pure ops H L ops.size c≠ .dead→(bs pure ops H L ops.size b).isFixed=false∨(bs pure ops H L ops.size c).isFixed=false→l.blk=m.blk→b=c
 uniq:∀ j o b l,ops[j]? =some o→Op.touches o.op=false→L j=true→(H j).size≤b→b < (H (j+1)).size→φ b=some l→(∀ k,k < ops.size→L k=true→wrt pure ops k=true→k < j) →
  ∀ c m,c≠b→φ c=some m→m.blk≠l.blk
 old:∀ b,b < (H 0).size→φ b=φ0 b
 fresh:∀ b l,(H 0).size≤b→φ b=some l→w0.heap.size≤l.blk∨∃ c m,low≤c∧φ0 c=some m∧m.blk=l.blk
 os:w.os=w0.os
 tape:w.tape=w0.tape
 output:w.output=w0.output
 size:w0.heap.size≤w.heap.size
 kept:∀ i,i < w0.heap.size→(∀ b l,low≤b→φ0 b=some l→l.blk≠i)→w.heap[i]? =w0.heap[i]?
theorem ZbR {s:Nat} {o:Oper} {e:Env} {h h':Heap} {r:List Nat} {out:Out} (hr:ZeC ops s o e=some r) (hw:ZaR ops o e=some true) (hi:iop P low o e.eval h=some (out,h')) :
  h'=h∧(∃ v,out= .val v)∧∀ hX:Heap,(∀ b,b ∈ r→hX.get b=h.get b)→iop P low o e.eval hX=some (out,hX):=by
 unfold ZeC at hr
 simp only [hw] at hr
 obtain ⟨dst,op,ty,pos,after,guard⟩:=o
 cases op with
 | load t a =>
   simp only at hr
   split at hr
   ·rename_i b off ha
    split at hr
    ·cases hr
     simp only [iop,Op.touches,if_true,iop1,ha,Zej,Heap.look] at hi ⊢
     cases hv:Zej P h t (.pointer (some ⟨b,off,none⟩)) with
     | none =>
       simp only [Zej,Heap.look] at hv
       rw [hv] at hi
       cases hi
     | some v =>
       simp only [Zej,Heap.look] at hv
       rw [hv] at hi
       cases hi
       refine ⟨rfl,⟨v,rfl⟩,fun hX hb=> ?_⟩
       rw [hb b Yp,hv]
    ·cases hr
   ·cases hr
 | convert src dst2 x =>
   simp only at hr
   split at hr
   ·cases hr
   rename_i hsd
   split at hr
   ·rename_i k n hx
    cases hr
    simp only [iop,Op.touches,if_true,iop1,hx,ZdH] at hi ⊢
    unfold ZaF at hi ⊢
    split at hi
    ·rename_i v h2 hc
     split at hc<;>first | (cases hc;done) | (cases hc;cases hi;refine ⟨rfl,⟨_,rfl⟩,fun hX _=> ?_⟩;simp_all;done) | simp_all
    ·cases hi
   ·cases hr
 | slice t x lo hi' mx =>
   simp only at hr
   simp only [iop,Op.touches,if_true,iop1] at hi ⊢
   cases hv:ZeM P h t (e.eval x) (lo.map e.eval) (hi'.map e.eval) (mx.map e.eval) with
   | none=>rw [hv] at hi;cases hi
   | some v =>
     rw [hv] at hi
     cases hi
     refine ⟨rfl,⟨v,rfl⟩,fun hX hb=> ?_⟩
     have:ZeM P hX t (e.eval x) (lo.map e.eval) (hi'.map e.eval) (mx.map e.eval)=ZeM P h t (e.eval x) (lo.map e.eval) (hi'.map e.eval) (mx.map e.eval):=by
      split at hr
      ·rename_i q hq
       rw [hq]
       unfold ZeM
       cases P.underlying t with
       | none=>rfl
       | some d=>cases d<;>rfl
      ·rename_i b off n c hq
       split at hr
       ·cases hr
        rw [hq]
        have hbb:=hb b Yp
        unfold ZeM
        cases P.underlying t with
        | none=>rfl
        | some d=>cases d<;>(first | rfl | simp only [Heap.look,hbb])
       ·cases hr
      ·cases hr
     rw [this,hv]
 | _=>cases hr
theorem Zl6 {i:Nat} {o:Oper} {r:List Nat} (st:Zcz P low pure call ops o (E i) (H i) (V i) (H (i+1))) (ho:ops[i]? =some o) (h:rdAt ops E H i=some r):H (i+1)=H i:=by
 simp only [rdAt,ho] at h
 generalize hhe:H (i+1)=he at st
 generalize hve:V i=ve at st
 cases st with
 | off hw=>rfl
 | val v h' hw hio=>exact (ZbR h hw hio).1
 | skip h' hw hio=>exact (ZbR h hw hio).1
 | call f args h1 h' v hw hio hcl =>
   obtain ⟨_,⟨v,hv⟩,_⟩:=ZbR h hw hio
   cases hv
theorem Inv.next (R:Run P low pure call ops E H V T) {φ0 φ ψ:Zac} {a0 a:Act} {w0 w w':World} {L M:Nat→Bool} (I:Inv P low pure ops E H V φ0 a0 w0 L a w φ) {i:Nat} {o:Oper} (hr:Ready ops L i)
  (ho:ops[i]? =some o) (hM:M i=true) (hs:∀ j,j≠i→M j=L j) {h1 h2:Heap} (g:Goes (lowest pure low o (H i)) (ZbM φ (H i).size) h1 w ψ h2 w') (e1:h1.size=(H i).size) (e2:h2.size=(H (i+1)).size)
  (hsame:wrt pure ops i=false∨(h1=H i∧h2=H (i+1))) (hnew:∀ b,(H i).size≤b→b < (H (i+1)).size→h2.get b=(H (i+1)).get b)
  (hmk:((Op.touches o.op=true∧rdAt ops E H i=none)∨makes o.op=true)∨(H (i+1)).size=(H i).size) (hsingle:Op.touches o.op=false→(H (i+1)).size≤(H i).size+1) {v':Value} (hv:RV ψ (V i) v') :
  ∃ φ',Inv P low pure ops E H V φ0 a0 w0 M (a.put o.dst v') w' φ':=by
 have hi:i < ops.size:=(Array.getElem?_eq_some_iff.1 ho).1
 have hwi:wrt pure ops i=writes pure o.op:=R.ZcM ho
 have hgi:=R.grows (i:=i) Ya
 have hmono:(H i).size≤(H (i+1)).size:=R.mono Ya Ya
 have hlw:wrt pure ops i=false→lowest pure low o (H i)=(H i).size:=by
  intro h
  rw [hwi] at h
  simp [lowest,h]
 have hll:low≤lowest pure low o (H i):=(Zeb hgi.2).2
 have hLi:L i=false:=hr.1
 have hwn:wrt pure ops i=true→Op.touches o.op=true∧rdAt ops E H i=none:=by
  intro hw
  rw [hwi] at hw
  refine ⟨Za9 hw,?_⟩
  cases hrd:rdAt ops E H i with
  | none=>rfl
  | some r=>rw [(ZaS ho hrd).1 pure] at hw;cases hw
 have hML:∀ k,L k=true→M k=true:=by
  intro k hk
  by_cases e:k=i
  ·subst e;exact hM
  ·rw [hs k e];exact hk
 have hnone:∀ b,(H i).size≤b→b < (H (i+1)).size→φ b=none:=by
  intro b hb1 hb2
  cases hφ:φ b with
  | none=>rfl
  | some l =>
    rcases I.dom b l hφ with h | ⟨j,hj,hLj,h3,h4⟩
    ·omega
    ·have:=R.one hj hi h3 h4 hb1 hb2
     subst this
     rw [hLi] at hLj;cases hLj
 let φ':Zac:=fun b=>if (H i).size≤b∧b < (H (i+1)).size then ψ b else φ b
 have p_in:∀ b,(H i).size≤b→b < (H (i+1)).size→φ' b=ψ b:=fun b h1 h2=>by simp [φ',h1,h2]
 have p_out:∀ b,¬ ((H i).size≤b∧b < (H (i+1)).size)→φ' b=φ b:=fun b h=>by simp only [φ'];rw [if_neg h]
 have hext:∀ b l,φ b=some l→φ' b=some l:=by
  intro b l hb
  by_cases h:(H i).size≤b∧b < (H (i+1)).size
  ·rw [hnone b h.1 h.2] at hb;cases hb
  ·rw [p_out b h];exact hb
 have hψold:∀ b,b < (H i).size→ψ b=φ b:=by
  intro b hb
  rw [g.old b Ya]
  simp [ZbM,hb]
 have hψ:ZbM φ' (H (i+1)).size=ψ:=by
  funext b
  unfold ZbM
  split
  ·rename_i hb
   by_cases hb':b < (H i).size
   ·rw [p_out b Ya,hψold b hb']
   ·rw [p_in b Ya hb]
  ·rename_i hb
   cases hx:ψ b with
   | none=>rfl
   | some l=>exact absurd (g.rh.low b l hx).1 Ya
 have hfr:wrt pure ops i=false→∀ b l,(H i).size≤b→ψ b=some l→w.heap.size≤l.blk:=by
  intro hw b l hb hl
  rcases g.fresh b l Ya hl with h | ⟨c,m,hc,hm,_⟩
  ·exact h
  ·rw [hlw hw] at hc
   have:=(Zar hm).1
   omega
 have hapart:wrt pure ops i=true→∀ c l,(H (i+1)).size≤c→φ c=some l→∃ j oj,ops[j]? =some oj∧Op.touches oj.op=false∧L j=true∧i < j∧j < ops.size∧(H j).size≤c∧c < (H (j+1)).size ∧
   ∀ d m,d≠c→φ d=some m→m.blk≠l.blk:=by
  intro hw c l hc hφ
  have ht:Op.touches o.op=true:=Za9 (by rw [← hwi];exact hw)
  rcases I.dom c l hφ with h | ⟨j,hj,hLj,h3,h4⟩
  ·have:=hgi.1;omega
  ·have hij:i < j:=by
    rcases Nat.lt_trichotomy i j with h | h | h
    ·exact h
    ·subst h;rw [hLi] at hLj;cases hLj
    ·have:=R.mono (i:=j+1) (j:=i) Ya Ya;omega
   have hy:ops[j]? =some ops[j]:=Array.getElem?_eq_getElem hj
   have hmem:=((R.two I.down hr ho hy).1 hij hLj).2
   have htj:Op.touches (ops[j]'hj).op=false:=by
    rw [hwi] at hw
    rcases hmem with hmem | ⟨r,h5,_⟩ | ⟨r,h5,_⟩ | ⟨h5,_⟩
    ·unfold ZfX at hmem
     cases htj:Op.touches (ops[j]'hj).op with
     | false=>rfl
     | true=>simp [hw,htj] at hmem
    ·rw [(ZaS ho h5).1 pure] at hw;cases hw
    ·have:=(Zl6 (R.step j _ hy) hy h5)
     rw [this] at h4
     omega
    ·rw [Zbr hw] at h5;cases h5
   refine ⟨j,_,hy,htj,hLj,hij,hj,h3,h4,?_⟩
   refine I.uniq j _ c l hy htj hLj h3 h4 hφ ?_
   intro k hk hLk hwk
   have:=R.Zd3 I.down hr ho (hwn hw).1 (hwn hw).2 hk hLk hwk
   omega
 have b_out:∀ b,wrt pure ops i=false→¬ ((H i).size≤b∧b < (H (i+1)).size)→bs pure ops H M ops.size b=bs pure ops H L ops.size b:=fun b hw hb=>R.Zrd hLi hs hi hw hb _
 have b_in:∀ b,b < (H (i+1)).size→(wrt pure ops i=true∨(H i).size≤b)→bs pure ops H M ops.size b=(H (i+1)).get b:=by
  intro b hb hw
  rcases hmk with ht | hsz
  ·exact R.ZpK I.down hr ho hM hs ht hb hw
  ·rcases hw with hw | hw
   ·exact R.ZpK I.down hr ho hM hs (.inl (hwn hw)) hb (.inl hw)
   ·omega
 have b_late:wrt pure ops i=true→∀ c l,(H (i+1)).size≤c→φ c=some l→bs pure ops H M ops.size c=bs pure ops H L ops.size c:=by
  intro hw c l hc hφ
  obtain ⟨j,oj,hy,_,hLj,hij,hj,h3,h4,_⟩:=hapart hw c l hc hφ
  exact R.Zre hs hj hij hLj h3 h4
 have keepW:∀ b l,φ b=some l→(wrt pure ops i=false∨(H (i+1)).size≤b)→w'.heap[l.blk]? =w.heap[l.blk]? :=by
  intro b l hφ hc
  refine g.kept l.blk (I.blk b l hφ).1 ?_
  intro c m hc1 hc2
  obtain ⟨hc3,hc4⟩:=Zar hc2
  rcases hc with hw | hb
  ·rw [hlw hw] at hc1;omega
  ·cases hw:wrt pure ops i with
   | false=>rw [hlw hw] at hc1;omega
   | true =>
     obtain ⟨j,oj,_,_,_,_,_,_,_,hu⟩:=hapart hw b l hb hφ
     exact hu c m Ya hc4
 refine ⟨φ',?_,?_,?_,?_,?_,?_,?_,?_,?_,?_,?_,?_,?_,?_,?_⟩
 ·
  intro k oo e hk hMk he hb
  by_cases ek:k=i
  ·subst ek
   obtain ⟨_,o',ho',hall⟩:=hr
   rw [ho'] at hk
   cases hk
   exact hML _ (hall e he hb)
  ·rw [hs k ek] at hMk
   exact hML _ (I.down k oo e hk hMk he hb)
 ·
  cases hdst:o.dst<;>simp [Act.put,I.tsz]
 ·cases hdst:o.dst<;>simp [Act.put,I.dfr]
 ·
  intro t
  rw [R.Zr2 I.down hr ho hM hs t]
  by_cases hc:o.dst=some t∧t < (E 0).size
  ·rw [if_pos hc]
   refine ⟨i+1,?_,.inr ⟨i,hi,rfl,hM,by simp [ZeR,ho,hc.1],hc.2⟩⟩
   rw [hψ]
   have:(a.put o.dst v').tmps.getD t undef=v':=by
    rw [hc.1]
    simp [Act.put,Array.getD_eq_getD_getElem?,Array.getElem?_setIfInBounds,I.tsz,hc.2]
   rw [this]
   exact hv
  ·rw [if_neg hc]
   obtain ⟨m,hm,hk⟩:=I.slots t
   refine ⟨m,?_,hk.imp id fun ⟨k,a1,a2,a3,a4⟩=>⟨k,a1,a2,hML k a3,a4⟩⟩
   have:(a.put o.dst v').tmps.getD t undef=a.tmps.getD t undef:=by
    cases hdst:o.dst with
    | none=>rfl
    | some d =>
      simp only [Act.put,Array.getD_eq_getD_getElem?,Array.getElem?_setIfInBounds]
      by_cases e:d=t
      ·subst e
       have h1:¬ d < (E 0).size:=fun hh=>hc ⟨hdst,hh⟩
       have h2:¬ d < a.tmps.size:=by rw [I.tsz];exact h1
       simp [h2]
      ·simp [e]
   rw [this]
   exact hm.mono (ZbB (Nat.le_refl _) hext)
 ·
  intro b l hb
  by_cases h:(H i).size≤b∧b < (H (i+1)).size
  ·exact .inr ⟨i,hi,hM,h.1,h.2⟩
  ·rw [p_out b h] at hb
   exact (I.dom b l hb).imp id fun ⟨j,a1,a2,a3⟩=>⟨j,a1,hML j a2,a3⟩
 ·
  intro b l hb
  have viaG:b < (H (i+1)).size→(wrt pure ops i=true∨(H i).size≤b)→l.blk < w'.heap.size∧∃ o m,w'.heap[l.blk]? =some o∧RB (ZbM φ' (H m).size) l (bs pure ops H M ops.size b) o ∧
    (m=0∨∃ k,k < ops.size∧m=k+1∧M k=true∧((wrt pure ops k=true∧¬ Zgp H k b)∨(H k).size≤b∧b < (H (k+1)).size)):=by
   intro hlt hc
   have hψb:ψ b=some l:=by rw [← hψ];exact Zg9 hlt hb
   obtain ⟨ob,q1,q2⟩:=g.rh.blk b l hψb
   have full:(wrt pure ops i=true∧¬ Zgp H i b)∨(H i).size≤b→l.blk < w'.heap.size∧∃ o m,w'.heap[l.blk]? =some o∧RB (ZbM φ' (H m).size) l (bs pure ops H M ops.size b) o ∧
     (m=0∨∃ k,k < ops.size∧m=k+1∧M k=true∧((wrt pure ops k=true∧¬ Zgp H k b)∨(H k).size≤b∧b < (H (k+1)).size)):=by
    intro hc2
    refine ⟨(g.rh.low b l hψb).2,ob,i+1,q1,?_,.inr ⟨i,hi,rfl,hM,hc2.imp id fun h=>⟨h,hlt⟩⟩⟩
    rw [hψ,b_in b hlt hc]
    rcases hc with hw | hge
    ·rcases hsame with hf | ⟨_,rfl⟩
     ·rw [hw] at hf;cases hf
     ·exact q2
    ·rw [← hnew b hge hlt]
     exact q2
   by_cases hge:(H i).size≤b
   ·exact full (.inr hge)
   ·have hw:wrt pure ops i=true:=hc.resolve_right hge
    by_cases hst:Zgp H i b
    ·
     have hφb:φ b=some l:=by rw [← p_out b Ya];exact hb
     obtain ⟨_,ob0,m,r1,r2,r3⟩:=I.blk b l hφb
     rw [R.ZhG I.down hr ho (hwn hw).1 (fun r hr=>by rw [(hwn hw).2] at hr;cases hr) (I.dom b l hφb) Ya] at r2
     have hmi:(H m).size≤(H i).size:=by
      rcases r3 with rfl | ⟨k,hk,rfl,hLk,hw2 | ⟨hw1,hw2⟩⟩
      ·exact hgi.1
      ·have:=R.Zd3 I.down hr ho (hwn hw).1 (hwn hw).2 hk hLk hw2.1
       exact R.mono Ya Ya
      ·have:k < i:=by
        rcases Nat.lt_or_ge k i with h | h
        ·exact h
        ·have:=R.mono (i:=i) (j:=k) h Ya;omega
       exact R.mono Ya Ya
     refine ⟨(g.rh.low b l hψb).2,ob,m,q1,?_,r3.imp id fun ⟨k,a1,a2,a3,a4⟩=>⟨k,a1,a2,hML k a3,a4⟩⟩
     rw [b_in b hlt hc]
     rcases hsame with hf | ⟨_,rfl⟩
     ·rw [hw] at hf;cases hf
     ·have hst':(H (i+1)).get b=(H i).get b:=hst
      rw [hst'] at q2 ⊢
      have q3:RB (ZbM φ (H m).size) l ((H i).get b) ob:=by
       refine r2.shrink (ψ:=ψ) ?_ q2
       intro c lc hc3
       obtain ⟨d1,d2⟩:=Zar hc3
       exact g.ext c lc (Zg9 Ya d2)
      exact q3.mono (ZbB (Nat.le_refl _) hext)
    ·exact full (.inl ⟨hw,hst⟩)
  by_cases hin:(H i).size≤b∧b < (H (i+1)).size
  ·exact viaG hin.2 (.inr hin.1)
  ·have hφ:φ b=some l:=by rw [← p_out b hin];exact hb
   cases hw:wrt pure ops i with
   | true =>
     by_cases hlt:b < (H (i+1)).size
     ·exact viaG hlt (.inl hw)
     ·obtain ⟨q0,ob,m,q1,q2,q3⟩:=I.blk b l hφ
      refine ⟨by have:=g.size;omega,ob,m,by rw [keepW b l hφ (.inr Ya)];exact q1,?_,q3.imp id fun ⟨k,a1,a2,a3,a4⟩=>⟨k,a1,a2,hML k a3,a4⟩⟩
      rw [b_late hw b l Ya hφ]
      exact q2.mono (ZbB (Nat.le_refl _) hext)
   | false =>
     obtain ⟨q0,ob,m,q1,q2,q3⟩:=I.blk b l hφ
     refine ⟨by have:=g.size;omega,ob,m,by rw [keepW b l hφ (.inl hw)];exact q1,?_,q3.imp id fun ⟨k,a1,a2,a3,a4⟩=>⟨k,a1,a2,hML k a3,a4⟩⟩
     rw [b_out b hw hin]
     exact q2.mono (ZbB (Nat.le_refl _) hext)
 ·
  intro b c l m hb hc lb lc hf e
  have mixed:∀ b c l m,(H i).size≤b→b < (H (i+1)).size→¬ ((H i).size≤c∧c < (H (i+1)).size)→φ' b=some l→φ' c=some m→bs pure ops H M ops.size b≠ .dead→bs pure ops H M ops.size c≠ .dead →
    (bs pure ops H M ops.size b).isFixed=false∨(bs pure ops H M ops.size c).isFixed=false→l.blk=m.blk→b=c:=by
   intro b c l m hb1 hb2 hcn hb hc lb lc hf e
   rw [p_in b hb1 hb2] at hb
   rw [p_out c hcn] at hc
   cases hw:wrt pure ops i with
   | false =>
     have h3:=hfr hw b l hb1 hb
     have h4:=(I.blk c m hc).1
     omega
   | true =>
     by_cases hlt:c < (H (i+1)).size
     ·rcases hsame with hf | ⟨_,rfl⟩
      ·rw [hw] at hf;cases hf
      ·rw [b_in b hb2 (.inl hw)] at lb
       rw [b_in c hlt (.inl hw)] at lc
       rw [b_in b hb2 (.inl hw),b_in c hlt (.inl hw)] at hf
       exact g.rh.inj b c l m hb (by rw [hψold c Ya];exact hc) lb lc hf e
     ·obtain ⟨j,oj,_,_,_,_,_,_,_,hu⟩:=hapart hw c m Ya hc
      rcases g.fresh b l Ya hb with h | ⟨d,md,hd,hmd,he⟩
      ·have h4:=(I.blk c m hc).1
       omega
      ·obtain ⟨hd1,hd2⟩:=Zar hmd
       exact absurd (he.trans e) (hu d md Ya hd2)
  by_cases hbi:(H i).size≤b∧b < (H (i+1)).size<;>by_cases hci:(H i).size≤c∧c < (H (i+1)).size
  ·rw [p_in b hbi.1 hbi.2] at hb
   rw [p_in c hci.1 hci.2] at hc
   rw [b_in b hbi.2 (.inr hbi.1),← hnew b hbi.1 hbi.2] at lb
   rw [b_in c hci.2 (.inr hci.1),← hnew c hci.1 hci.2] at lc
   rw [b_in b hbi.2 (.inr hbi.1),← hnew b hbi.1 hbi.2,b_in c hci.2 (.inr hci.1),← hnew c hci.1 hci.2] at hf
   exact g.rh.inj b c l m hb hc lb lc hf e
  ·exact mixed b c l m hbi.1 hbi.2 hci hb hc lb lc hf e
  ·exact (mixed c b m l hci.1 hci.2 hbi hc hb lc lb hf.symm e.symm).symm
  ·rw [p_out b hbi] at hb
   rw [p_out c hci] at hc
   cases hw:wrt pure ops i with
   | false =>
     rw [b_out b hw hbi] at lb
     rw [b_out c hw hci] at lc
     rw [b_out b hw hbi,b_out c hw hci] at hf
     exact I.inj b c l m hb hc lb lc hf e
   | true =>
     by_cases hb2:b < (H (i+1)).size<;>by_cases hc2:c < (H (i+1)).size
     ·rcases hsame with hf | ⟨_,rfl⟩
      ·rw [hw] at hf;cases hf
      ·rw [b_in b hb2 (.inl hw)] at lb
       rw [b_in c hc2 (.inl hw)] at lc
       rw [b_in b hb2 (.inl hw),b_in c hc2 (.inl hw)] at hf
       exact g.rh.inj b c l m (by rw [hψold b Ya];exact hb) (by rw [hψold c Ya];exact hc) lb lc hf e
     ·obtain ⟨j,oj,_,_,_,_,_,_,_,hu⟩:=hapart hw c m Ya hc
      exact absurd e (hu b l Ya hb)
     ·obtain ⟨j,oj,_,_,_,_,_,_,_,hu⟩:=hapart hw b l Ya hb
      exact absurd e.symm (hu c m Ya hc)
     ·rw [b_late hw b l Ya hb] at lb
      rw [b_late hw c m Ya hc] at lc
      rw [b_late hw b l Ya hb,b_late hw c m Ya hc] at hf
      exact I.inj b c l m hb hc lb lc hf e
 ·
  intro j oj b l hj htj hMj hb1 hb2 hb hwj c m hcb hc
  have hjs:j < ops.size:=(Array.getElem?_eq_some_iff.1 hj).1
  by_cases ej:j=i
  ·subst ej
   rw [ho] at hj
   cases hj
   have hw:wrt pure ops j=false:=by
    cases hw:wrt pure ops j with
    | false=>rfl
    | true=>rw [hwi] at hw;rw [Za9 hw] at htj;cases htj
   rw [p_in b hb1 hb2] at hb
   have h3:=hfr hw b l hb1 hb
   by_cases hci:(H j).size≤c∧c < (H (j+1)).size
   ·have:=hsingle htj
    omega
   ·rw [p_out c hci] at hc
    have:=(I.blk c m hc).1
    omega
  ·have hLj:L j=true:=by rw [← hs j ej];exact hMj
   have hbn:¬ ((H i).size≤b∧b < (H (i+1)).size):=fun h=>ej (R.one hjs hi hb1 hb2 h.1 h.2)
   rw [p_out b hbn] at hb
   have hold:=I.uniq j oj b l hj htj hLj hb1 hb2 hb (fun k hk hLk hwk=>hwj k hk (hML k hLk) hwk)
   by_cases hci:(H i).size≤c∧c < (H (i+1)).size
   ·rw [p_in c hci.1 hci.2] at hc
    rcases g.fresh c m Ya hc with h | ⟨d,md,hd,hmd,he⟩
    ·have:=(I.blk b l hb).1
     omega
    ·obtain ⟨hd1,hd2⟩:=Zar hmd
     cases hw:wrt pure ops i with
     | false=>rw [hlw hw] at hd;omega
     | true =>
       have hij:=hwj i hi hM hw
       have:=R.mono (i:=i+1) (j:=j) Ya Ya
       rw [← he]
       exact hold d md Ya hd2
   ·rw [p_out c hci] at hc
    exact hold c m hcb hc
 ·
  intro b hb
  rw [p_out b (by have:=hgi.1;omega)]
  exact I.old b hb
 ·
  intro b l hb hl
  by_cases hbi:(H i).size≤b∧b < (H (i+1)).size
  ·rw [p_in b hbi.1 hbi.2] at hl
   rcases g.fresh b l Ya hl with h | ⟨c,m,hc,hm,he⟩
   ·exact .inl (by have:=I.size;omega)
   ·obtain ⟨hc1,hc2⟩:=Zar hm
    by_cases hc0:c < (H 0).size
    ·exact .inr ⟨c,m,by omega,by rw [← I.old c hc0];exact hc2,he⟩
    ·rcases I.fresh c m Ya hc2 with h | ⟨d,md,hd,hmd,he2⟩
     ·exact .inl Ya
     ·exact .inr ⟨d,md,hd,hmd,he2.trans he⟩
  ·rw [p_out b hbi] at hl
   exact I.fresh b l hb hl
 ·exact g.os.trans I.os
 ·exact g.tape.trans I.tape
 ·exact g.output.trans I.output
 ·exact Nat.le_trans I.size g.size
 ·intro k hk hn
  rw [g.kept k (by have:=I.size;omega) ?_]
  ·exact I.kept k hk hn
  ·intro c m hc hm e
   obtain ⟨hc1,hc2⟩:=Zar hm
   by_cases hc0:c < (H 0).size
   ·exact hn c m Ya (by rw [← I.old c hc0];exact hc2) e
   ·rcases I.fresh c m Ya hc2 with h | ⟨d,md,hd,hmd,he2⟩
    ·omega
    ·exact hn d md hd hmd (he2.trans e)
end
end Go.Im
namespace Go.Im
theorem ZoO {φ:Zac} {e:Env} {a:Act} (x:Operand) (h:∀ t,x= .tmp t→RV φ (e.get t) (a.tmps.getD t undef)):RV φ (e.eval x) (a.eval x):=by
 cases x with
 | tmp t=>exact h t rfl
 | const v =>
   simp only [Env.eval,Act.eval]
   split
   ·rename_i hp;exact RV.plain φ hp
   ·exact .bad _
 | global g=>exact .bad _
 | func f=>exact .func _ _ _ _ _ rfl rfl Yad Yad
theorem Zec {ops:Array Oper} {o:Oper} {t:Nat} (h:Operand.tmp t ∈ o.op.operands):t ∈ o.looksAt ops :=
 List.mem_append_left _ (List.mem_filterMap.2 ⟨.tmp t,by simpa using h,rfl⟩)
theorem ZfY {ops:Array Oper} {o:Oper} {g d:Nat} {want:Bool} (hg:o.guard=some (g,want)) (hd:(ops[g]?).bind (·.dst)=some d):d ∈ o.looksAt ops:=by
 simp [Oper.looksAt,hg,hd]
section
variable {P:Program} {T:Tied} {low:Nat} {pure:Pu} {call:Nat→FuncId→Array Value→Heap→Option (Value × Heap)} {ops:Array Oper}
variable {E:Nat→Env} {H:Nat→Heap} {V:Nat→Value}
theorem ZhF (s b:Nat):(⟨s,.leaf⟩:Heap).get b= .dead:=rfl
theorem Run.op (R:Run P low pure call ops E H V T) {φ0 φ:Zac} {a0 a:Act} {w0 w:World} {L M:Nat→Bool} (I:Inv P low pure ops E H V φ0 a0 w0 L a w φ) {i:Nat} (hr:Ready ops L i) (hM:M i=true) (hs:∀ j,j≠i→M j=L j) (ht0:T.holds φ0) (h00:∀ b l,φ0 b=some l→b < (H 0).size)
  {Q:Exit→Act→World→Prop} {K:Act→World→Prop} (hK:∀ a' w' φ',Inv P low pure ops E H V φ0 a0 w0 M a' w' φ'→K a' w'):wpOp P ops Q i K a w:=by
 obtain ⟨hLi,o,ho,hall⟩:=hr
 have hr:Ready ops L i:=⟨hLi,o,ho,hall⟩
 have hi:i < ops.size:=(Array.getElem?_eq_some_iff.1 ho).1
 have hgi:=R.grows (i:=i) Ya
 have st:=R.step i o ho
 have htr:T.holds (ZbM φ (H i).size):=by
  refine T.mono (fun b l hb=> ?_) ht0
  have hlt:=h00 b l hb
  have hsz:=hgi.1
  unfold ZbM
  rw [if_pos Ya,I.old b hlt]
  exact hb
 have hslot:∀ t,t ∈ o.looksAt ops→RV (ZbM φ (H i).size) ((E i).get t) (a.tmps.getD t undef):=by
  intro t ht
  obtain ⟨m,hm,hk⟩:=I.slots t
  rw [R.ZnN I.down hr ho ht] at hm
  refine hm.mono (ZbB ?_ fun _ _ h=>h)
  rcases hk with rfl | ⟨k,hk,rfl,hLk,hd,_⟩
  ·exact hgi.1
  ·have hki:k < i:=by
    rcases Nat.lt_trichotomy k i with h | h | h
    ·exact h
    ·subst h;rw [hLi] at hLk;cases hLk
    ·exfalso
     have hy:ops[k]? =some ops[k]:=Array.getElem?_eq_getElem hk
     have hap:=((R.two I.down hr ho hy).1 h hLk).1
     have hd':(ops[k]'hk).dst=some t:=by simpa [ZeR,hy] using hd
     exact (Oper.apart_spec hap).2.2 t hd' ht
   exact R.mono Ya Ya
 have hρ:∀ x ∈ o.op.operands,RV (ZbM φ (H i).size) ((E i).eval x) (a.eval x):=fun x hx=>ZoO x fun t ht=>hslot t (Zec (by rw [← ht];exact hx))
 have hwant:∀ b,ZaR ops o (E i)=some b→Region.wanted o (yielded ops a.tmps)=b:=fun b hb=>Zgs (fun g want d h1 h2=>hslot d (ZfY h1 h2)) hb
 cases ht:Op.touches o.op with
 | true =>
   cases hrd:rdAt ops E H i with
   | some r =>
     have hw1:writes pure o.op=false:=(ZaS ho hrd).1 pure
     have hw0:wrt pure ops i=false:=by rw [R.ZcM ho];exact hw1
     have hsame:H (i+1)=H i:=Zl6 st ho hrd
     have hget:∀ b l,φ b=some l→b < (H i).size→b ∈ r→bs pure ops H L ops.size b=(H i).get b:=fun b l hb hlt hm=>R.ZhG I.down hr ho ht (fun r' hr'=>by rw [hrd] at hr';cases hr';exact hm) (I.dom b l hb) hlt
     have hX:∃ hX:Heap,hX.size=(H i).size∧∀ b,hX.get b=if b ∈ r then (H i).get b else .dead:=by
      clear hget hrd
      induction r with
      | nil=>exact ⟨⟨(H i).size,.leaf⟩,rfl,fun b=>by simp [ZhF]⟩
      | cons c r ih =>
        obtain ⟨g,g1,g2⟩:=ih
        refine ⟨g.set c ((H i).get c),by simp [g1],fun b=> ?_⟩
        rw [Heap.Zae,g2]
        by_cases e:b=c
        ·simp [e]
        ·simp [e]
     obtain ⟨hX,x1,x2⟩:=hX
     have hrh:RH (ZbM φ (H i).size) hX w:=by
      refine ⟨?_,?_,?_⟩
      ·intro b l hb
       obtain ⟨h1,h2⟩:=Zar hb
       exact ⟨by rw [x1];exact h1,(I.blk b l h2).1⟩
      ·intro b l hb
       obtain ⟨h1,h2⟩:=Zar hb
       obtain ⟨_,ob,m,q1,q2,q3⟩:=I.blk b l h2
       refine ⟨ob,q1,?_⟩
       rw [x2]
       by_cases hm:b ∈ r
       ·rw [if_pos hm]
        rw [hget b l h2 h1 hm] at q2
        refine q2.mono (ZbB ?_ fun _ _ h=>h)
        rcases q3 with rfl | ⟨k,hk,rfl,hLk,⟨hw,hns⟩ | ⟨hw1,hw2⟩⟩
        ·exact hgi.1
        ·have hki:k < i:=by
          rcases Nat.lt_trichotomy k i with h | h | h
          ·exact h
          ·subst h;rw [hLi] at hLk;cases hLk
          ·exact absurd (R.Zf2 I.down hr ho (.inl ⟨r,hrd,hm⟩) hk h hLk hw) hns
         exact R.mono Ya Ya
        ·have:k < i:=by
          rcases Nat.lt_or_ge k i with h | h
          ·exact h
          ·have:=R.mono (i:=i) (j:=k) h Ya;omega
         exact R.mono Ya Ya
       ·rw [if_neg hm]
        cases ob<;>simp [RB]
      ·intro b c l m hb hc lb lc hf e
       obtain ⟨h1,h2⟩:=Zar hb
       obtain ⟨h3,h4⟩:=Zar hc
       rw [x2] at lb lc
       rw [x2,x2] at hf
       have m1:b ∈ r:=by
        by_cases hm:b ∈ r
        ·exact hm
        ·rw [if_neg hm] at lb;exact absurd rfl lb
       have m2:c ∈ r:=by
        by_cases hm:c ∈ r
        ·exact hm
        ·rw [if_neg hm] at lc;exact absurd rfl lc
       rw [if_pos m1] at lb
       rw [if_pos m2] at lc
       rw [if_pos m1,if_pos m2] at hf
       exact I.inj b c l m h2 h4 (by rw [hget b l h2 h1 m1];exact lb) (by rw [hget c m h4 h3 m2];exact lc) (by rw [hget b l h2 h1 m1,hget c m h4 h3 m2];exact hf) e
     have hro:ZeC ops (H 0).size o (E i)=some r:=by simpa only [rdAt,ho] using hrd
     have st':Zcz P low pure call ops o (E i) hX (V i) hX:=by
      rw [hsame] at st
      generalize hve:V i=ve at st
      generalize hhe:H i=he at st
      have hxe:∀ b,b ∈ r→hX.get b=he.get b:=fun b hb=>by rw [x2,if_pos hb,hhe]
      cases st with
      | off hw=>exact .off hw
      | val v h' hw hio=>exact .val _ _ hw ((ZbR hro hw hio).2.2 hX hxe)
      | skip h' hw hio =>
        obtain ⟨_,⟨v,hv⟩,_⟩:=ZbR hro hw hio
        cases hv
      | call f args h1 h' v hw hio hcl =>
        obtain ⟨_,⟨v,hv⟩,_⟩:=ZbR hro hw hio
        cases hv
     have hlow:lowest pure low o hX=lowest pure low o (H i):=by simp [lowest,hw1,x1]
     refine st'.wp R.calls (show low≤hX.size by rw [x1];exact hgi.2) hrh htr hρ hwant ho ?_
     intro ψ w' v' g hv
     rw [hlow] at g
     obtain ⟨φ',I'⟩:=I.next R hr ho hM hs g x1 (by rw [x1,hsame]) (.inl hw0) (fun b hb hb2=>by rw [hsame] at hb2;omega) (.inr (by rw [hsame])) (fun h=>by rw [ht] at h;cases h) hv
     exact hK _ _ φ' I'
   | none =>
   have hget:∀ b l,φ b=some l→b < (H i).size→bs pure ops H L ops.size b=(H i).get b:=fun b l hb hlt=>R.ZhG I.down hr ho ht (fun r' hr'=>by rw [hrd] at hr';cases hr') (I.dom b l hb) hlt
   have hrh:RH (ZbM φ (H i).size) (H i) w:=by
    refine ⟨?_,?_,?_⟩
    ·intro b l hb
     obtain ⟨h1,h2⟩:=Zar hb
     exact ⟨h1,(I.blk b l h2).1⟩
    ·intro b l hb
     obtain ⟨h1,h2⟩:=Zar hb
     obtain ⟨_,ob,m,q1,q2,q3⟩:=I.blk b l h2
     refine ⟨ob,q1,?_⟩
     rw [hget b l h2 h1] at q2
     refine q2.mono (ZbB ?_ fun _ _ h=>h)
     rcases q3 with rfl | ⟨k,hk,rfl,hLk,hw | ⟨hw1,hw2⟩⟩
     ·exact hgi.1
     ·have:=R.Zd3 I.down hr ho ht hrd hk hLk hw.1
      exact R.mono Ya Ya
     ·have:k < i:=by
       rcases Nat.lt_or_ge k i with h | h
       ·exact h
       ·have:=R.mono (i:=i) (j:=k) h Ya;omega
      exact R.mono Ya Ya
    ·intro b c l m hb hc lb lc hf e
     obtain ⟨h1,h2⟩:=Zar hb
     obtain ⟨h3,h4⟩:=Zar hc
     exact I.inj b c l m h2 h4 (by rw [hget b l h2 h1];exact lb) (by rw [hget c m h4 h3];exact lc) (by rw [hget b l h2 h1,hget c m h4 h3];exact hf) e
   refine st.wp R.calls hgi.2 hrh htr hρ hwant ho ?_
   intro ψ w' v' g hv
   obtain ⟨φ',I'⟩:=I.next R hr ho hM hs g rfl rfl (.inr ⟨rfl,rfl⟩) (fun _ _ _=>rfl) (.inl (.inl ⟨ht,hrd⟩)) (fun h=>by rw [ht] at h;cases h) hv
   exact hK _ _ φ' I'
 | false =>
   have hw0:wrt pure ops i=false:=by
    rw [R.ZcM ho]
    cases hw:writes pure o.op with
    | false=>rfl
    | true=>rw [Za9 hw] at ht;cases ht
   have hw1:writes pure o.op=false:=by rw [← R.ZcM ho];exact hw0
   have hrh:RH (ZbM φ (H i).size) ⟨(H i).size,.leaf⟩ w:=by
    refine ⟨?_,?_,?_⟩
    ·intro b l hb
     obtain ⟨h1,h2⟩:=Zar hb
     exact ⟨h1,(I.blk b l h2).1⟩
    ·intro b l hb
     obtain ⟨h1,h2⟩:=Zar hb
     obtain ⟨_,ob,m,q1,_,_⟩:=I.blk b l h2
     exact ⟨ob,q1,by rw [ZhF];cases ob<;>simp [RB]⟩
    ·intro b c l m _ _ lb
     exact absurd (ZhF _ _) lb
   have main:∃ ob:Option Blk,Zcz P low pure call ops o (E i) ⟨(H i).size,.leaf⟩ (V i) (Heap.more ⟨(H i).size,.leaf⟩ ob)∧H (i+1)=Heap.more (H i) ob∧(ob=none∨makes o.op=true):=by
    generalize hhe:H (i+1)=he at st
    generalize hve:V i=ve at st
    cases st with
    | off hw=>exact ⟨none,.off hw,rfl,.inl rfl⟩
    | val v h' hw hio =>
      obtain ⟨v0,ob,h0,hv0,rfl⟩:=ZcH ht hio
      cases hv0
      refine ⟨ob,.val _ _ hw (Zqv ht h0),rfl,?_⟩
      cases ob with
      | none=>exact .inl rfl
      | some x=>exact .inr (Zle h0)
    | skip h' hw hio =>
      obtain ⟨v0,ob,h0,hv0,_⟩:=ZcH ht hio
      cases hv0
    | call f args h1 h' v hw hio hcl =>
      obtain ⟨v0,ob,h0,hv0,_⟩:=ZcH ht hio
      cases hv0
   obtain ⟨ob,st',hH,hob⟩:=main
   have hlow:lowest pure low o (⟨(H i).size,.leaf⟩:Heap)=lowest pure low o (H i):=by simp [lowest,hw1]
   refine st'.wp R.calls (show low≤(⟨(H i).size,.leaf⟩:Heap).size from hgi.2) hrh htr hρ hwant ho ?_
   intro ψ w' v' g hv
   rw [hlow] at g
   have e2:(Heap.more ⟨(H i).size,.leaf⟩ ob).size=(H (i+1)).size:=by
    rw [hH]
    cases ob<;>rfl
   have hnew:∀ b,(H i).size≤b→(Heap.more ⟨(H i).size,.leaf⟩ ob).get b=(H (i+1)).get b∨(H (i+1)).size≤b:=by
    intro b hb
    rw [hH]
    cases ob with
    | none=>right;simpa [Heap.more] using hb
    | some x =>
      by_cases e:b=(H i).size
      ·left
       simp only [Heap.more,Heap.Zam,e,if_true]
      ·right
       simp only [Heap.more,Heap.size_push]
       omega
   have hsz1:(H (i+1)).size≤(H i).size+1:=by
    rw [hH]
    cases ob with
    | none=>simp [Heap.more]
    | some x=>simp [Heap.more]
   have hmk:((Op.touches o.op=true∧rdAt ops E H i=none)∨makes o.op=true)∨(H (i+1)).size=(H i).size:=by
    rcases hob with rfl | h
    ·right;rw [hH];rfl
    ·exact .inl (.inr h)
   obtain ⟨φ',I'⟩:=I.next R hr ho hM hs g rfl e2 (.inl hw0) (fun b hb hb2=>(hnew b hb).resolve_right Ya) hmk (fun _=>hsz1) hv
   exact hK _ _ φ' I'
theorem Run.any (R:Run P low pure call ops E H V T) {φ0:Zac} {a0:Act} {w0:World} {Q:Exit→Act→World→Prop}
  (hfin:∀ φ' tmps' w',RE φ' (E ops.size) tmps'→Goes low φ0 (H 0) w0 φ' (H ops.size) w'→Q .normal ⟨tmps',a0.defers⟩ w') (h0:∀ b l,φ0 b=some l→b < (H 0).size) (ht0:T.holds φ0) :
  ∀ (fuel:Nat) (listed:Array Bool) (a:Act) (w:World) (φ:Zac),listed.size=ops.size→Inv P low pure ops E H V φ0 a0 w0 (fun i=>listed.getD i false) a w φ→left (fun i=>listed.getD i false) ops.size≤fuel →
    wpAny P .any ops Q fuel listed a w:=by
 have done:∀ (listed:Array Bool) (a:Act) (w:World) (φ:Zac),listed.size=ops.size→Inv P low pure ops E H V φ0 a0 w0 (fun i=>listed.getD i false) a w φ→(∀ i,i < ops.size→listed.getD i false=true)→Q .normal a w:=by
  intro listed a w φ hsz I hall
  have hre:RE φ (E ops.size) a.tmps:=by
   refine ⟨by rw [I.tsz,R.ZqW (Nat.le_refl _)],fun t=> ?_⟩
   obtain ⟨m,hm,_⟩:=I.slots t
   rw [R.Zr3 hall t ops.size (Nat.le_refl _)] at hm
   exact hm.mono fun b l hb=>(Zar hb).2
  have hdom:∀ b l,φ b=some l→b < (H ops.size).size:=by
   intro b l hb
   rcases I.dom b l hb with h | ⟨j,hj,_,_,h2⟩
   ·have:=(R.grows (i:=ops.size) (Nat.le_refl _)).1;omega
   ·have:=R.mono (i:=j+1) (j:=ops.size) Ya (Nat.le_refl _);omega
  have hbs:∀ b l,φ b=some l→bs pure ops H (fun i=>listed.getD i false) ops.size b=(H ops.size).get b:=fun b l hb=>R.Ztg hall ops.size (Nat.le_refl _) (hdom b l hb)
  have hgo:Goes low φ0 (H 0) w0 φ (H ops.size) w:=by
   refine ⟨?_,I.old,⟨?_,?_,?_⟩,(R.grows (Nat.le_refl _)).1,I.fresh,I.os,I.tape,I.output,I.size,I.kept⟩
   ·intro b l hb
    rw [I.old b (h0 b l hb)];exact hb
   ·exact fun b l hb=>⟨hdom b l hb,(I.blk b l hb).1⟩
   ·intro b l hb
    obtain ⟨_,ob,m,q1,q2,_⟩:=I.blk b l hb
    rw [hbs b l hb] at q2
    exact ⟨ob,q1,q2.mono fun c m hc=>(Zar hc).2⟩
   ·intro b c l m hb hc lb lc hf e
    exact I.inj b c l m hb hc (by rw [hbs b l hb];exact lb) (by rw [hbs c m hc];exact lc) (by rw [hbs b l hb,hbs c m hc];exact hf) e
  have:=hfin φ a.tmps w hre hgo
  rw [← I.dfr] at this
  exact this
 have stuck:∀ (listed:Array Bool),listed.size=ops.size→Region.ready .any ops listed=[]→∀ i,i < ops.size→listed.getD i false=true:=by
  intro listed hsz hnil i
  induction i using Nat.strongRecOn with
  | _ i ih =>
    intro hi
    cases hl:listed.getD i false with
    | true=>rfl
    | false =>
      exfalso
      have hmem:i ∈ Region.ready .any ops listed:=by
       rw [mem_ready]
       have ho:ops[i]? =some ops[i]:=Array.getElem?_eq_getElem hi
       refine ⟨?_,ops[i],ho,?_⟩
       ·rw [Array.getD_eq_getD_getElem?,Array.getElem?_eq_getElem Ya] at hl ⊢
        exact hl
       ·intro e he hb
        have:=R.back i _ e ho (by simpa using he) hb
        exact ih e.on this Ya
      rw [hnil] at hmem
      cases hmem
 intro fuel
 induction fuel with
 | zero =>
   intro listed a w φ hsz I hleft
   have hall:=Zih (L:=fun i=>listed.getD i false) (by omega:left (fun i=>listed.getD i false) ops.size=0)
   refine ⟨?_,done listed a w φ hsz I hall⟩
   apply List.eq_nil_iff_forall_not_mem.2
   intro i hi
   rw [mem_ready] at hi
   obtain ⟨h1,o,ho,_⟩:=hi
   have hlt:i < ops.size:=(Array.getElem?_eq_some_iff.1 ho).1
   have h2:=hall i hlt
   simp only [Array.getD_eq_getD_getElem?,Array.getElem?_eq_getElem (show i < listed.size by omega),Option.getD_some] at h1 h2
   rw [h2] at h1;cases h1
 | succ fuel ih =>
   intro listed a w φ hsz I hleft
   refine ⟨fun hnil=>done listed a w φ hsz I (stuck listed hsz hnil),fun i hi=> ?_⟩
   rw [mem_ready] at hi
   obtain ⟨h1,o,ho,hall⟩:=hi
   have hlt:i < ops.size:=(Array.getElem?_eq_some_iff.1 ho).1
   have hLi:listed.getD i false=false:=by
    simp only [Array.getD_eq_getD_getElem?,Array.getElem?_eq_getElem (show i < listed.size by omega),Option.getD_some] at h1 ⊢
    exact h1
   have hr:Ready ops (fun i=>listed.getD i false) i:=⟨hLi,o,ho,fun e he hb=>hall e (by simpa using he) hb⟩
   have hM:(listed.setIfInBounds i true).getD i false=true:=by
    simp [Array.getD_eq_getD_getElem?,Array.getElem?_setIfInBounds,hsz,hlt]
   have hs:∀ j,j≠i→(listed.setIfInBounds i true).getD j false=listed.getD j false:=fun j hj=>getD_set_ne false (fun h=>hj h.symm)
   refine R.op I hr (M:=fun j=>(listed.setIfInBounds i true).getD j false) hM hs ht0 h0 ?_
   intro a' w' φ' I'
   refine ih (listed.setIfInBounds i true) a' w' φ' (by simpa using hsz) I' ?_
   have:=Zkh (L:=fun i=>listed.getD i false) (M:=fun j=>(listed.setIfInBounds i true).getD j false) hLi hM hs ops.size hlt
   omega
theorem ZfI (hsl:∀ i o,ops[i]? =some o→E (i+1)=(E i).put o.dst (V i)) {i t:Nat} (hn:∀ k y d,i≤k→ops[k]? =some y→y.dst=some d→d≠t):∀ n,i≤n→n≤ops.size→(E n).get t=(E i).get t:=by
 intro n
 induction n with
 | zero =>
   intro h _
   have:i=0:=by omega
   rw [this]
 | succ n ih =>
   intro h1 h2
   by_cases e:i=n+1
   ·rw [e]
   ·have hy:ops[n]? =some ops[n]:=Array.getElem?_eq_getElem Ya
    rw [hsl n _ hy]
    cases hd:(ops[n]' Ya).dst with
    | none=>exact ih Ya Ya
    | some d =>
      rw [Env.get_put,if_neg (by rintro ⟨_,h⟩;exact hn n _ d Ya hy hd h.symm)]
      exact ih Ya Ya
theorem Zee {o:Oper} {e e':Env} (h:∀ t,t ∈ o.looksAt ops→e'.get t=e.get t):ZaR ops o e'=ZaR ops o e:=by
 unfold ZaR
 cases hg:o.guard with
 | none=>rfl
 | some p =>
   obtain ⟨j,want⟩:=p
   simp only
   cases hd:(ops[j]?).bind (·.dst) with
   | none=>rfl
   | some d=>simp only [h d (ZfY hg hd)]
theorem Zgd {o:Oper} {e e':Env} (h:∀ t,t ∈ o.looksAt ops→e'.get t=e.get t):∀ x ∈ o.op.operands,e'.eval x=e.eval x:=by
 intro x hx
 cases x with
 | tmp t=>exact h t (Zec hx)
 | _=>rfl
theorem ZfR {s:Nat} {o:Oper} {e e':Env} (h:∀ t,t ∈ o.looksAt ops→e'.get t=e.get t):ZeC ops s o e'=ZeC ops s o e:=by
 have he:=Zgd h
 unfold ZeC
 rw [Zee h]
 obtain ⟨dst,op,ty,pos,after,guard⟩:=o
 cases op<;>first | rfl | skip
 all_goals (simp only [Op.operands] at he)
 ·rename_i t a
  simp only [he a Yp]
 ·rename_i a b x
  simp only [he x Yp]
 ·rename_i t x lo hi mx
  simp only [he x Yp]
theorem Zfy {o:Oper} {e e':Env} (h:∀ t,t ∈ o.looksAt ops→e'.get t=e.get t):Zew ops o e'=Zew ops o e:=by
 have he:=Zgd h
 unfold Zew
 rw [Zee h]
 obtain ⟨dst,op,ty,pos,after,guard⟩:=o
 cases op<;>first | rfl | skip
 ·rename_i t a x
  simp only [Op.operands] at he
  simp only [he a Yp]
 ·rename_i c
  simp only [Op.operands,Call.operands] at he
  obtain ⟨callee,args,ts⟩:=c
  cases callee with
  | builtin b =>
    cases b<;>first | rfl | skip
    simp only
    cases hl:args.toList with
    | nil=>rfl
    | cons x l =>
      have hx:x ∈ args:=by rw [← Array.mem_toList_iff,hl];simp
      simp only [he x Y6]
  | _=>rfl
theorem ZmM {size k:Nat} {c:Option Addr} {n cap:Nat} {new:List Value} {h h':Heap} {v:Value} (hi:iput low h size (.slice c n cap) k new=some (v,h')) (b:Nat) (hb:b < h.size) (hn:∀ a,c=some a→b≠a.block):h'.get b=h.get b:=by
 unfold iput at hi
 split at hi
 ·rename_i he
  split at hi
  ·cases hi
   rw [Heap.Zam,if_neg Ya]
  ·cases hi
 ·rename_i c0 o n0 cap0 he
  cases he
  have hne:b≠c0:=hn _ rfl
  repeat' (split at hi)
  all_goals (first | (cases hi;done) | skip)
  all_goals cases hi
  all_goals (simp only [Heap.Zam,Heap.Zae,Heap.size_set])
  all_goals (first | (rw [if_neg hne];done) | (rw [if_neg Ya];done) | (rw [if_neg Ya,if_neg hne]))
 ·cases hi
theorem Zk7 {t:TypeId} {c off:Nat} {v:Value} {h h':Heap} (hs:Zcq P low h t (.pointer (some ⟨c,off,none⟩)) v=some h'):∃ x,h'=h.set c x:=by
 unfold Zcq at hs
 simp only at hs
 cases hg:h.get c with
 | cells cs esz =>
   rw [hg] at hs
   simp only at hs
   split at hs
   ·cases hs
    exact ⟨_,rfl⟩
   ·cases hs
 | _=>rw [hg] at hs;cases hs
theorem ZjH {o:Oper} {e:Env} {h h':Heap} {out:Out} {w:List Nat} (hw:Zew ops o e=some w) (hq:ZaR ops o e=some true) (hi:iop P low o e.eval h=some (out,h')):∀ b,b < h.size→b ∉ w→h'.get b=h.get b:=by
 intro b hb hbw
 unfold Zew at hw
 simp only [hq] at hw
 obtain ⟨dst,op,ty,pos,after,guard⟩:=o
 cases op with
 | store t a x =>
   simp only at hw
   split at hw
   ·rename_i c off ha
    cases hw
    simp only [iop,Op.touches,if_true,iop1,ha] at hi
    split at hi
    ·rename_i g hs
     cases hi
     obtain ⟨x,rfl⟩:=Zk7 hs
     rw [Heap.Zae,if_neg (by simpa using hbw)]
    ·cases hi
   ·cases hw
 | call c =>
   obtain ⟨callee,args,ts⟩:=c
   cases callee with
   | builtin bi =>
     cases bi<;>first | (cases hw;done) | skip
     simp only at hw
     cases hl:args.toList with
     | nil=>rw [hl] at hw;cases hw
     | cons x l =>
       rw [hl] at hw
       simp only at hw
       simp only [iop,Op.touches,if_true,iop1,hl,List.map_cons] at hi
       split at hi
       ·rename_i v g hs
        cases hi
        unfold ZaG at hs
        split at hs
        ·rename_i s0 x0 heq
         simp only [List.cons.injEq] at heq
         obtain ⟨rfl,_⟩:=heq
         split at hs
         ·unfold ZaC at hs
          repeat' (split at hs)
          all_goals (first | (cases hs;done) | skip)
          ·cases hs;rfl
          ·rename_i base n cap _ _ hsl _ _
           refine ZmM hs b hb ?_
           intro a ha
           rw [hsl] at hw
           subst ha
           obtain ⟨blk,off,sp⟩:=a
           cases sp with
           | some z=>cases hw
           | none =>
             cases hw
             simpa using hbw
         ·cases hs
        ·rename_i hb2 _
         cases hb2
        ·rename_i hb2 _
         cases hb2
        ·rename_i hb2 _
         cases hb2
        ·rename_i hb2 _
         cases hb2
        ·cases hs
       ·cases hi
   | _=>cases hw
 | _=>cases hw
theorem Zfx {o:Oper} {e:Env} {h h':Heap} {v:Value} {w:List Nat} (hw:Zew ops o e=some w) (st:Zcz P low pure call ops o e h v h'):∀ b,b < h.size→b ∉ w→h'.get b=h.get b:=by
 intro b hb hbw
 cases st with
 | off hq=>rfl
 | val v h' hq hio=>exact ZjH hw hq hio b hb hbw
 | skip h' hq hio=>exact ZjH hw hq hio b hb hbw
 | call f args h1 h' v hq hio hcl =>
   obtain ⟨_,c,hop,_,hnb⟩:=ZeP hio
   unfold Zew at hw
   cases hcal:c.callee with
   | builtin b=>exact absurd hcal (hnb b)
   | value g=>simp [hq,hop,hcal] at hw
   | invoke g n=>simp [hq,hop,hcal] at hw
theorem Zqg {P:Program} {sz:Nat} {op:Op} {ρ:Operand→Value} {v:Value} {x:Blk} (hm:makes op=true) (h:iop0 P sz op ρ=some (v,some x)) :
  (∃ o,v= .pointer (some ⟨sz,o,none⟩))∨∃ o n c,v= .slice (some ⟨sz,o,none⟩) n c:=by
 unfold iop0 at h
 cases op<;>first | (simp [makes] at hm;done) | skip
 all_goals (simp only at h)
 all_goals (try unfold Zf8 at h)
 all_goals (repeat' (split at h))
 all_goals (first | (cases h;done) | skip)
 all_goals (first | (simp only [Option.some.injEq,Prod.mk.injEq] at h;obtain ⟨rfl,_⟩:=h) | (cases h))
 all_goals (first | exact .inl ⟨_,rfl⟩ | exact .inr ⟨_,_,_,rfl⟩)
theorem Zs3 (hc:CallOK P T call) (hl:low≤(H 0).size) (hst:∀ i o,ops[i]? =some o→Zcz P low pure call ops o (E i) (H i) (V i) (H (i+1))) (hsl:∀ i o,ops[i]? =some o→E (i+1)=(E i).put o.dst (V i))
  {dy:List (Nat × Nat)} (hdy:dyOK ops (H 0).size (E ops.size) dy=true) {j i:Nat} (hm:(j,i) ∈ dy) (hji:j < i) {x y:Oper} (hx:ops[j]? =some x) (hy:ops[i]? =some y) (sx:Still ops j x) (sy:Still ops i y) :
  Dyn pure ops E H j i x y:=by
 have hjs:j < ops.size:=(Array.getElem?_eq_some_iff.1 hx).1
 have his:i < ops.size:=(Array.getElem?_eq_some_iff.1 hy).1
 have grow:∀ m,m≤ops.size→low≤(H m).size:=by
  intro m
  induction m with
  | zero=>intro _;exact hl
  | succ m ih =>
    intro hm
    have hz:ops[m]? =some ops[m]:=Array.getElem?_eq_getElem Ya
    have:=(hst m _ hz).keeps hc (ih Ya)
    have:=ih Ya
    omega
 have mono:∀ a m,a≤m→m≤ops.size→(H a).size≤(H m).size:=by
  intro a m
  induction m with
  | zero =>
    intro h1 _
    have:a=0:=by omega
    rw [this]
    exact Nat.le_refl _
  | succ m ih =>
    intro h1 h2
    by_cases e:a=m+1
    ·rw [e];exact Nat.le_refl _
    ·have hz:ops[m]? =some ops[m]:=Array.getElem?_eq_getElem Ya
     have h3:=((hst m _ hz).keeps hc (grow m Ya)).1
     have:=ih Ya Ya
     omega
 have lx:∀ t,t ∈ x.looksAt ops→(E ops.size).get t=(E j).get t:=fun t ht=>ZfI hsl (fun k y d h1 h2 h3 h4=>sx.looks k y d h1 h2 h3 (by rw [h4];exact ht)) _ Ya (Nat.le_refl _)
 have ly:∀ t,t ∈ y.looksAt ops→(E ops.size).get t=(E i).get t:=fun t ht=>ZfI hsl (fun k y d h1 h2 h3 h4=>sy.looks k y d h1 h2 h3 (by rw [h4];exact ht)) _ Ya (Nat.le_refl _)
 have hp:=List.all_eq_true.1 hdy _ hm
 simp only [Zmd,hx,hy,Bool.or_eq_true] at hp
 rw [ZfR lx,ZfR ly,Zfy lx,Zfy ly] at hp
 have diff:∀ {a b:Option (List Nat)},ZeT a b=true→∃ r w,a=some r∧b=some w∧∀ c,c ∈ r→c ∉ w:=by
  intro a b hab
  unfold ZeT at hab
  split at hab
  ·rename_i r w
   refine ⟨r,w,rfl,rfl,fun c hc hcw=> ?_⟩
   have:=List.all_eq_true.1 hab c hc
   simp [hcw] at this
  ·cases hab
 have wr:∀ {o:Oper} {e:Env} {w:List Nat},Zew ops o e=some w→writes pure o.op=true:=by
  intro o e w hw
  unfold Zew at hw
  split at hw
  ·cases hw
  ·split at hw
   ·rename_i e;rw [e];rfl
   ·rename_i e
    split at hw
    ·rename_i e2;rw [e];simp only [writes,e2]
    ·cases hw
   ·cases hw
  ·split at hw
   ·rename_i e;rw [e];rfl
   ·rename_i e
    split at hw
    ·rename_i e2;rw [e];simp only [writes,e2]
    ·cases hw
   ·cases hw
 have rdlt:∀ {s:Nat} {o:Oper} {e:Env} {r:List Nat},ZeC ops s o e=some r→∀ b,b ∈ r→b < s:=by
  intro s o e r hr b hb
  unfold ZeC at hr
  repeat' (split at hr)
  all_goals (first | (cases hr;done) | skip)
  all_goals (cases hr;simp at hb)
  all_goals (subst hb;assumption)
 rcases hp with (hp | hp) | hp
 ·obtain ⟨r,w,h1,h2,h3⟩:=diff hp
  left
  refine ⟨r,by simp only [rdAt,hx];exact h1,wr h2,fun b hb=> ?_⟩
  exact Zfx h2 (hst i _ hy) b (by have:=rdlt h1 b hb;have:=mono 0 i Ya Ya;omega) (h3 b hb)
 ·obtain ⟨r,w,h1,h2,h3⟩:=diff hp
  right;left
  refine ⟨r,by simp only [rdAt,hy];exact h1,wr h2,fun b hb=> ?_⟩
  exact Zfx h2 (hst j _ hx) b (by have:=rdlt h1 b hb;have:=mono 0 j Ya Ya;omega) (h3 b hb)
 ·obtain ⟨m,w,h1,h2,h3⟩:=diff hp
  right;right
  have hmk:makes x.op=true:=by
   unfold Zoi at h1
   split at h1<;>first | (cases h1;done) | (rename_i e;rw [e];rfl)
  refine ⟨hmk,wr h2,fun b hb1 hb2=> ?_⟩
  refine Zfx h2 (hst i _ hy) b (by have:=mono (j+1) i Ya Ya;omega) (h3 b ?_)
  have hd:∃ d,x.dst=some d∧d < (E ops.size).size∧m=(match (E ops.size).get d with
    | .pointer (some ⟨b,_,none⟩)=>[b]
    | .slice (some ⟨b,_,none⟩) _ _=>[b]
    | _=>[])∧((∃ b o,(E ops.size).get d= .pointer (some ⟨b,o,none⟩))∨(∃ b o n c,(E ops.size).get d= .slice (some ⟨b,o,none⟩) n c)∨∃ vs,(E ops.size).get d= .tuple vs):=by
   unfold Zoi at h1
   split at h1<;>first | (cases h1;done) | skip
   all_goals (split at h1<;>first | (cases h1;done) | skip)
   all_goals (split at h1<;>first | (cases h1;done) | skip)
   all_goals (rename_i d hdd hlt;refine ⟨d,hdd,hlt,?_⟩)
   all_goals (split at h1<;>first | (cases h1;done) | skip)
   all_goals (rename_i heq;rw [heq];cases h1;refine ⟨rfl,?_⟩)
   all_goals (first | exact .inl ⟨_,_,rfl⟩ | exact .inr (.inl ⟨_,_,_,_,rfl⟩) | exact .inr (.inr ⟨_,rfl⟩))
  obtain ⟨d,hd1,hd2,hd3,hd4⟩:=hd
  have hsz:∀ n,n≤ops.size→(E n).size=(E 0).size:=by
   intro n
   induction n with
   | zero=>intro _;rfl
   | succ n ih =>
     intro hn
     have hz:ops[n]? =some ops[n]:=Array.getElem?_eq_getElem Ya
     rw [hsl n _ hz,Env.size_put,ih Ya]
  have hlast:(E ops.size).get d=V j:=by
   rw [ZfI (i:=j+1) hsl (fun k y d' h1 h2 h3 h4=>sx.own k y d' Ya h2 h3 (by rw [hd1,h4])) _ Ya (Nat.le_refl _),hsl j _ hx,hd1,Env.get_put,if_pos ⟨by rw [hsz j Ya,← hsz ops.size (Nat.le_refl _)];exact hd2,rfl⟩]
  have stj:=hst j _ hx
  generalize hhe:H (j+1)=he at stj hb2
  generalize hve:V j=ve at stj hlast
  cases stj with
  | off hw=>omega
  | val v h' hw hio =>
    have ht:Op.touches x.op=false:=ZbN hmk
    obtain ⟨v0,ob,h0,hv0,rfl⟩:=ZcH ht hio
    cases hv0
    cases ob with
    | none=>simp only [Heap.more] at hb2;omega
    | some blk =>
      simp only [Heap.more,Heap.size_push] at hb2
      have hbe:b=(H j).size:=Ya
      rcases Zqg hmk h0 with ⟨o,rfl⟩ | ⟨o,n,c,rfl⟩
      ·rw [hlast] at hd3
       rw [hd3,hbe]
       simp
      ·rw [hlast] at hd3
       rw [hd3,hbe]
       simp
  | skip h' hw hio =>
    obtain ⟨v0,ob,h0,hv0,_⟩:=ZcH (ZbN hmk) hio
    cases hv0
  | call f args h1 h' v hw hio hcl =>
    obtain ⟨v0,ob,h0,hv0,_⟩:=ZcH (ZbN hmk) hio
    cases hv0
theorem Zi6 (hm:P.follows .mixedOrders=true) (hc:CallOK P T call) {dy:List (Nat × Nat)} (hok:Zfg pure dy ops=true) {id:Nat} {e e':Env} {h h':Heap} {φ:Zac} {a:Act} {w:World} (hl:low≤h.size)
  (hi:ZaB P low pure call ops ops.toList e h=some (e',h')) (hdy:dyOK ops h.size e' dy=true) (hre:RE φ e a.tmps) (hrh:RH φ h w) (ht:T.holds φ) {Q:Exit→Act→World→Prop}
  (hq:∀ ψ tmps' w',Goes low φ h w ψ h' w'→RE ψ e' tmps'→Q .normal ⟨tmps',a.defers⟩ w'):(Code.region id ops true).wp P Q a w:=by
 obtain ⟨E,H,V,rfl,rfl,h3,h4,h5⟩:=Zeg _ _ _ _ _ hi
 simp only [Array.length_toList] at h3 h4
 have hrok:=Zha hok
 have hst:∀ i o,ops[i]? =some o→Zcz P low pure call ops o (E i) (H i) (V i) (H (i+1)):=fun i o ho=>(h5 i o (by simpa using ho)).1
 have hsl:∀ i o,ops[i]? =some o→E (i+1)=(E i).put o.dst (V i):=fun i o ho=>(h5 i o (by simpa using ho)).2
 have R:Run P low pure call ops E H V T:=⟨hc,hl,hrok.back,fun j i x y hji hx hy=>(hrok.pair j i x y hji hx hy).imp (fun q=>q) fun ⟨q1,q2⟩=>⟨q1,q2.imp (fun q=>q) fun ⟨q3,q4,q5⟩ =>
  Zs3 hc hl hst hsl (by rw [h3];exact hdy) q3 hji hx hy q4 q5⟩,hst,hsl⟩
 refine wp_region_any hm ?_
 have hdrew:=hrh.drew (w.drawn+1)
 refine R.any (φ0:=φ) (a0:=a) (w0:={ w with drawn:=w.drawn+1 }) ?_ (fun b l hb=>(hrh.low b l hb).1) ht ops.size _ a _ φ Yp ?_ ?_
 ·intro ψ tmps' w' hre' hgo
  rw [h3] at hre'
  rw [h4] at hgo
  refine hq ψ tmps' w' ?_ hre'
  exact ⟨hgo.ext,hgo.old,hgo.rh,hgo.grows,hgo.fresh,hgo.os,hgo.tape,hgo.output,hgo.size,hgo.kept⟩
 ·have hno:∀ i,(Array.replicate ops.size false).getD i false=false:=by
   intro i
   simp only [Array.getD_eq_getD_getElem?]
   rcases Nat.lt_or_ge i ops.size with hi | hi
   ·simp [hi]
   ·simp [Array.getElem?_eq_none (show (Array.replicate ops.size false).size≤i by simpa using hi)]
  have hvs:∀ k t,vs ops (E 0) V (fun i=>(Array.replicate ops.size false).getD i false) k t=(E 0).get t:=by
   intro k t
   induction k with
   | zero=>rfl
   | succ k ih=>simp only [vs];rw [if_neg (by rw [hno];simp)];exact ih
  have hbs:∀ k b,bs pure ops H (fun i=>(Array.replicate ops.size false).getD i false) k b=(H 0).get b:=by
   intro k b
   induction k with
   | zero=>rfl
   | succ k ih=>simp only [bs];rw [if_neg (by rw [hno];simp)];exact ih
  have hrs:ZbM φ (H 0).size=φ:=by
   funext b
   unfold ZbM
   split
   ·rfl
   ·rename_i hb
    cases hx:φ b with
    | none=>rfl
    | some l=>exact absurd (hrh.low b l hx).1 hb
  refine ⟨?_,hre.size,rfl,?_,?_,?_,?_,?_,fun _ _=>rfl,?_,rfl,rfl,rfl,Nat.le_refl _,fun _ _ _=>rfl⟩
  ·intro i o e ho hL
   have hL':(Array.replicate ops.size false).getD i false=true:=hL
   rw [hno] at hL';cases hL'
  ·intro t
   exact ⟨0,by rw [hvs,hrs];exact hre.get t,.inl rfl⟩
  ·exact fun b l hb=> .inl (hrh.low b l hb).1
  ·intro b l hb
   obtain ⟨ob,q1,q2⟩:=hrh.blk b l hb
   exact ⟨(hrh.low b l hb).2,ob,0,q1,by rw [hbs,hrs];exact q2,.inl rfl⟩
  ·intro b c l m hb hc lb lc hf e
   rw [hbs] at lb lc
   rw [hbs,hbs] at hf
   exact hrh.inj b c l m hb hc lb lc hf e
  ·intro j o b l _ _ hL
   have hL':(Array.replicate ops.size false).getD j false=true:=hL
   rw [hno] at hL';cases hL'
  ·intro b l hb hl'
   have:=(hrh.low b l hl').1
   omega
 ·have:∀ k,left (fun i=>(Array.replicate ops.size false).getD i false) k≤k:=by
   intro k
   induction k with
   | zero=>exact Nat.le_refl _
   | succ k ih=>simp only [left];split<;>omega
  exact this _
end
end Go.Im
namespace Go.Im
def ZbA (pm:Nat→Pu) (dy:Nat→List (Nat × Nat)):Code→Bool
 | .region id ops draw=> !draw || Zfg (pm id) (dy id) ops
 | .seq a b=>ZbA pm dy a && ZbA pm dy b
 | .cond _ a b=>ZbA pm dy a && ZbA pm dy b
 | .block _ b=>ZbA pm dy b
 | .loop b=>ZbA pm dy b
 | .scope b=>ZbA pm dy b
 | _=>true
structure CfgOK (K:Cfg):Prop where
 follows:K.P.follows .mixedOrders=true
 fn : ∀ f fn c, K.ok f = true → K.P.funcs[f]? = some fn → fn.body = some c → ZbA (K.pm f) (K.dy f) c = true ∧ (fn.name == "runtime.NumGoroutine") = false
 ext:CallOK K.P K.tied K.known
 lower:∀ low low' f args h r,low'≤low→K.known low f args h=some r→K.known low' f args h=some r
def Ex.out:Ex→Exit
 | .normal=> .normal
 | .ret=> .ret
 | .exit id=> .exit id
theorem ZlG {φ:Zac} {n:Nat} {args args':Array Value} (h:RL φ args.toList args'.toList):RE φ (Env.start n args.toList) (args'++Array.replicate (n - args'.size) undef):=by
 have hl:args.size=args'.size:=by have:=h.1;simpa using this
 refine ⟨by simp [Env.start];omega,fun t=> ?_⟩
 simp only [Env.get,Env.start,Env.ZhA,Nat.zero_le,true_and,Nat.zero_add,Nat.sub_zero,Array.length_toList]
 by_cases ht:t < args.size
 ·obtain ⟨x,hx⟩:∃ x,args.toList[t]? =some x:=⟨args[t],by simp [ht]⟩
  obtain ⟨y,hy,hr⟩:=h.get hx
  have hy':args'[t]? =some y:=by simpa using hy
  have:(args'++Array.replicate (n - args'.size) undef).getD t undef=y:=by
   rw [Array.getD_eq_getD_getElem?,Array.getElem?_append_left Ya,hy'];rfl
  simp only [ht,if_true,hx,this]
  exact hr
 ·have h0:(Tree.leaf:Tree Value).get t=none:=rfl
  simp only [ht,if_false,h0]
  have:(args'++Array.replicate (n - args'.size) undef).getD t undef=undef:=by
   rw [Array.getD_eq_getD_getElem?,Array.getElem?_append_right Ya]
   by_cases h2:t - args'.size < n - args'.size
   ·simp [h2]
   ·rw [Array.getElem?_eq_none Yl];rfl
  rw [this]
  exact RV.undef φ
def Zc9 (tmps:Array Value):ResultVar→Sem Value
 | .tmp t=>pure (tmps.getD t undef)
 | .cell a t=>do loadVar t (← asAddr (tmps.getD a undef))
theorem ZkN {P:Program} {φ:Zac} {e:Env} {tmps:Array Value} {h:Heap} {w:World} (hre:RE φ e tmps) (hrh:RH φ h w) {r:ResultVar} {v:Value} (hv:ZdG P e h r=some v) :
  ∃ v',(Zc9 tmps r).run P w= .ok v' w∧RV φ v v':=by
 cases r with
 | tmp t =>
   simp only [ZdG] at hv
   cases hv
   exact ⟨_,rfl,hre.get t⟩
 | cell a t =>
   simp only [ZdG] at hv
   obtain ⟨v',g1,g2⟩:=Zkd hrh (hre.get a) hv
   refine ⟨v',?_,g2⟩
   have hp:∃ p,tmps.getD a undef= .pointer (some p):=by
    have hr:=hre.get a
    unfold Zej at hv
    split at hv
    ·rename_i heq
     rw [heq] at hr
     obtain ⟨l,_,hp⟩:=ZeE hr
     exact ⟨_,hp⟩
    ·cases hv
   obtain ⟨p,hp⟩:=hp
   rw [hp] at g1
   simp only [Zc9,hp]
   simpa [Instr.loadAt,Instr.sureAddr,asAddr] using g1
theorem ZcT {P:Program} {φ:Zac} {e:Env} {tmps:Array Value} {h:Heap} {w:World} (hre:RE φ e tmps) (hrh:RH φ h w):∀ (rs:List ResultVar) (vs:List Value),
  ZaP P e h rs=some vs→∃ vs',(rs.mapM (Zc9 tmps)).run P w= .ok vs' w∧RL φ vs vs'
 | [],vs,hm=>by
   simp only [ZaP] at hm
   cases hm
   exact ⟨[],by simp,RL.nil φ⟩
 | r::rs,vs,hm=>by
   simp only [ZaP] at hm
   split at hm
   ·rename_i v us hv hus
    cases hm
    obtain ⟨us',h1,h2⟩:=ZcT hre hrh rs us hus
    obtain ⟨v',h3,h4⟩:=ZkN (P:=P) hre hrh hv
    refine ⟨v'::us',?_,RL.cons h4 h2⟩
    rw [List.mapM_cons]
    simp only [Sem.run_bind,h3,Result.andThen_ok,h1,Sem.run_pure]
   ·cases hm
theorem Zi5 {P:Program} {fn:Func} {φ:Zac} {e:Env} {tmps:Array Value} {h:Heap} {w:World} (hre:RE φ e tmps) (hrh:RH φ h w) {v:Value} (hi:Zdj P fn e h=some v) :
  ∃ v',(results fn tmps).run P w= .ok v' w∧RV φ v v':=by
 unfold Zdj at hi
 have conv:∀ vs',(fn.results.toList.mapM (Zc9 tmps)).run P w= .ok vs' w →
   (results fn tmps).run P w= .ok (if h:vs'.toArray.size=1 then vs'.toArray[0] else .tuple vs'.toArray) w:=by
  intro vs' hv
  have hform:results fn tmps=(fn.results.mapM (Zc9 tmps) >>= fun vs=>Pure.pure (if h:vs.size=1 then vs[0] else Value.tuple vs):Sem Value):=by
   unfold results
   have:(fun r:ResultVar=>match r with
     | .tmp t=>(Pure.pure (tmps.getD t undef):Sem Value)
     | .cell a t=>do loadVar t (← asAddr (tmps.getD a undef)))=Zc9 tmps:=by
    funext r
    cases r<;>rfl
   rw [← this]
   rfl
  rw [hform,Array.mapM_eq_mapM_toList]
  simp only [Sem.run_bind,Sem.run_map,hv,Result.andThen_ok,Sem.run_pure]
 split at hi
 ·rename_i x hm
  cases hi
  obtain ⟨vs',h1,h2⟩:=ZcT (P:=P) hre hrh _ _ hm
  match vs',h2 with
  | [y],h2=>exact ⟨y,by rw [conv _ h1];rfl,h2.tail.1⟩
  | [],h2=>have:=h2.1;simp at this
  | _::_::_,h2=>have:=h2.1;simp at this
 ·rename_i vs hne hm
  cases hi
  obtain ⟨vs',h1,h2⟩:=ZcT (P:=P) hre hrh _ _ hm
  refine ⟨.tuple vs'.toArray,?_,.tuple _ _ (by simpa using h2.1) (by simpa using h2.2)⟩
  rw [conv _ h1]
  have:¬ vs'.toArray.size=1:=by
   intro hh
   have hl:vs.length=1:=by have:=h2.1;simp at hh;omega
   match vs,hl with
   | [x],_=>exact hne x rfl
  rw [dif_neg this]
 ·cases hi
def Zev (K:Cfg) (n:Nat):Prop:=∀ low f c e h x e' h',ZaJ K n low f c e h=some (x,e',h')→low≤h.size→ZbA (K.pm f) (K.dy f) c=true →
 (h.size≤h'.size∧∀ b,b < low→h'.get b=h.get b)∧∀ φ (a:Act) w,RE φ e a.tmps→RH φ h w→K.tied.holds φ→∀ Q:Exit→Act→World→Prop,
   (∀ ψ tmps' w',Goes low φ h w ψ h' w'→RE ψ e' tmps'→Q x.out ⟨tmps',a.defers⟩ w')→c.wp K.P Q a w∧∀ b,c= .loop b→Code.rounds K.P b Q n a w
theorem Zeh {P:Program} {low:Nat} {pure:Pu} {call:Nat→FuncId→Array Value→Heap→Option (Value × Heap)} {T:Tied} (hc:CallOK P T call) {ops:Array Oper}:∀ (rest:List Oper) (e:Env) (h:Heap) (e':Env) (h':Heap),
  low≤h.size→ZaB P low pure call ops rest e h=some (e',h')→h.size≤h'.size∧∀ b,b < low→h'.get b=h.get b
 | [],e,h,e',h',hl,hi=>by
   simp only [ZaB] at hi
   cases hi
   exact ⟨Nat.le_refl _,fun _ _=>rfl⟩
 | o::rest,e,h,e',h',hl,hi=>by
   have next:∀ (v:Value) (h1:Heap),Zcz P low pure call ops o e h v h1→ZaB P low pure call ops rest (e.put o.dst v) h1=some (e',h')→h.size≤h'.size∧∀ b,b < low→h'.get b=h.get b:=by
    intro v h1 st hr
    have k1:=st.keeps hc hl
    have k2:=Zeh hc rest _ _ _ _ Ya hr
    have:=(Zeb (pure:=pure) (o:=o) hl).2
    exact ⟨by omega,fun b hb=>by rw [k2.2 b hb,k1.2 b Ya]⟩
   unfold ZaB at hi
   split at hi
   ·cases hi
   ·rename_i hw
    exact next _ _ (.off hw) hi
   ·rename_i hw
    split at hi
    ·cases hi
    ·rename_i v h1 hio
     exact next _ _ (.val v h1 hw hio) hi
    ·rename_i h1 hio
     exact next _ _ (.skip h1 hw hio) hi
    ·rename_i f args h1 hio
     split at hi
     ·cases hi
     ·rename_i v h2 hcl
      exact next _ _ (.call f args h1 h2 v hw hio hcl) hi
theorem Znn {K:Cfg} (hK:CfgOK K) {n:Nat} (hcode:Zev K n) (hcall:CallOK K.P K.tied (Zbk K n)):Zev K (n+1):=by
 intro low f c e h x e' h' hi hl hok
 cases c with
 | skip =>
   simp only [ZaJ] at hi
   cases hi
   exact ⟨⟨Nat.le_refl _,fun _ _=>rfl⟩,fun φ a w hre hrh ht Q hq=>⟨wp_skip (hq φ a.tmps w (Goes.refl hrh) hre),fun b hb=>by cases hb⟩⟩
 | label l =>
   simp only [ZaJ] at hi
   cases hi
   exact ⟨⟨Nat.le_refl _,fun _ _=>rfl⟩,fun φ a w hre hrh ht Q hq=>⟨wp_label (hq φ a.tmps w (Goes.refl hrh) hre),fun b hb=>by cases hb⟩⟩
 | region id ops draw =>
   simp only [ZaJ] at hi
   split at hi
   ·rename_i e1 h1 hr
    split at hi
    case isFalse=>cases hi
    rename_i hdy
    cases hi
    refine ⟨Zeh hcall _ _ _ _ _ hl hr,fun φ a w hre hrh ht Q hq=>⟨?_,fun b hb=>by cases hb⟩⟩
    cases draw with
    | false =>
      refine wp_region ?_
      simp only [Bool.false_eq_true,if_false] at hr
      have:=ZgD (Q:=Q) hcall ops.toList 0 e h _ _ φ a w (fun j=>by simp) hl hr hre hrh ht hq
      rw [List.range_eq_range']
      simpa using this
    | true =>
      simp only [if_true] at hr
      have hreg:Zfg (K.pm f id) (K.dy f id) ops=true:=by simpa [ZbA] using hok
      exact Zi6 hK.follows hcall hreg hl hr hdy hre hrh ht hq
   ·cases hi
 | seq a b =>
   simp only [ZaJ] at hi
   simp only [ZbA,Bool.and_eq_true] at hok
   split at hi
   ·rename_i e1 h1 ha
    obtain ⟨k1,s1⟩:=hcode _ _ _ _ _ _ _ _ ha hl hok.1
    obtain ⟨k2,s2⟩:=hcode _ _ _ _ _ _ _ _ hi Ya hok.2
    refine ⟨⟨by omega,fun q hq=>by rw [k2.2 q hq,k1.2 q hq]⟩,fun φ act w hre hrh ht Q hq=>⟨wp_seq ?_,fun b hb=>by cases hb⟩⟩
    refine (s1 φ act w hre hrh ht _ ?_).1
    intro ψ t1 w1 g1 hre1
    refine (s2 ψ ⟨t1,act.defers⟩ w1 hre1 g1.rh (K.tied.mono g1.ext ht) Q ?_).1
    intro χ t2 w2 g2 hre2
    exact hq χ t2 w2 (g1.trans g2) hre2
   ·rename_i r hne
    obtain ⟨k1,s1⟩:=hcode _ _ _ _ _ _ _ _ hi hl hok.1
    refine ⟨k1,fun φ act w hre hrh ht Q hq=>⟨wp_seq ?_,fun b hb=>by cases hb⟩⟩
    refine (s1 φ act w hre hrh ht _ ?_).1
    intro ψ t1 w1 g1 hre1
    cases x with
    | normal=>exact absurd hi (hne e' h')
    | ret=>exact hq ψ t1 w1 g1 hre1
    | exit id=>exact hq ψ t1 w1 g1 hre1
 | cond c a b =>
   simp only [ZaJ] at hi
   simp only [ZbA,Bool.and_eq_true] at hok
   split at hi
   ·rename_i hc
    obtain ⟨k1,s1⟩:=hcode _ _ _ _ _ _ _ _ hi hl hok.1
    refine ⟨k1,fun φ act w hre hrh ht Q hq=>⟨?_,fun b hb=>by cases hb⟩⟩
    have he:=hre.eval (a:=act) c
    rw [hc] at he
    generalize hev:act.eval c=ev at he
    cases he
    exact wp_cond_true hev (s1 φ act w hre hrh ht Q hq).1
   ·rename_i hc
    obtain ⟨k1,s1⟩:=hcode _ _ _ _ _ _ _ _ hi hl hok.2
    refine ⟨k1,fun φ act w hre hrh ht Q hq=>⟨?_,fun b hb=>by cases hb⟩⟩
    have he:=hre.eval (a:=act) c
    rw [hc] at he
    generalize hev:act.eval c=ev at he
    cases he
    exact wp_cond_false hev (s1 φ act w hre hrh ht Q hq).1
   ·cases hi
 | block id b =>
   simp only [ZaJ] at hi
   simp only [ZbA] at hok
   split at hi
   ·rename_i id' e1 h1 hb
    obtain ⟨k1,s1⟩:=hcode _ _ _ _ _ _ _ _ hb hl hok
    split at hi
    ·rename_i hid
     cases hi
     refine ⟨k1,fun φ act w hre hrh ht Q hq=>⟨wp_block ?_,fun b hb=>by cases hb⟩⟩
     refine (s1 φ act w hre hrh ht _ ?_).1
     intro ψ t1 w1 g1 hre1
     simp only [Ex.out,Exit.inBlock,hid,if_true]
     exact hq ψ t1 w1 g1 hre1
    ·rename_i hid
     cases hi
     refine ⟨k1,fun φ act w hre hrh ht Q hq=>⟨wp_block ?_,fun b hb=>by cases hb⟩⟩
     refine (s1 φ act w hre hrh ht _ ?_).1
     intro ψ t1 w1 g1 hre1
     simp only [Ex.out,Exit.inBlock,hid,if_false]
     exact hq ψ t1 w1 g1 hre1
   ·rename_i hne
    obtain ⟨k1,s1⟩:=hcode _ _ _ _ _ _ _ _ hi hl hok
    refine ⟨k1,fun φ act w hre hrh ht Q hq=>⟨wp_block ?_,fun b hb=>by cases hb⟩⟩
    refine (s1 φ act w hre hrh ht _ ?_).1
    intro ψ t1 w1 g1 hre1
    cases x with
    | normal=>exact hq ψ t1 w1 g1 hre1
    | ret=>exact hq ψ t1 w1 g1 hre1
    | exit id'=>exact absurd hi (hne id' e' h')
 | loop b =>
   simp only [ZaJ] at hi
   have hokb:ZbA (K.pm f) (K.dy f) b=true:=by simpa [ZbA] using hok
   split at hi
   ·rename_i e1 h1 hb
    obtain ⟨k1,s1⟩:=hcode _ _ _ _ _ _ _ _ hb hl hokb
    obtain ⟨k2,s2⟩:=hcode _ _ _ _ _ _ _ _ hi Ya hok
    refine ⟨⟨by omega,fun q hq=>by rw [k2.2 q hq,k1.2 q hq]⟩,fun φ act w hre hrh ht Q hq=> ?_⟩
    have hr:Code.rounds K.P b Q (n+1) act w:=by
     rw [rounds_succ]
     refine (s1 φ act w hre hrh ht _ ?_).1
     intro ψ t1 w1 g1 hre1
     refine (s2 ψ ⟨t1,act.defers⟩ w1 hre1 g1.rh (K.tied.mono g1.ext ht) Q ?_).2 b rfl
     intro χ t2 w2 g2 hre2
     exact hq χ t2 w2 (g1.trans g2) hre2
    exact ⟨wp_loop_rounds _ hr,fun b' hb'=>by cases hb';exact hr⟩
   ·rename_i hne
    obtain ⟨k1,s1⟩:=hcode _ _ _ _ _ _ _ _ hi hl hokb
    refine ⟨k1,fun φ act w hre hrh ht Q hq=> ?_⟩
    have hr:Code.rounds K.P b Q (n+1) act w:=by
     rw [rounds_succ]
     refine (s1 φ act w hre hrh ht _ ?_).1
     intro ψ t1 w1 g1 hre1
     cases x with
     | normal=>exact absurd hi (hne e' h')
     | ret=>exact hq ψ t1 w1 g1 hre1
     | exit id=>exact hq ψ t1 w1 g1 hre1
    exact ⟨wp_loop_rounds _ hr,fun b' hb'=>by cases hb';exact hr⟩
 | exit id =>
   simp only [ZaJ] at hi
   cases hi
   exact ⟨⟨Nat.le_refl _,fun _ _=>rfl⟩,fun φ a w hre hrh ht Q hq=>⟨wp_exit (hq φ a.tmps w (Goes.refl hrh) hre),fun b hb=>by cases hb⟩⟩
 | scope b =>
   simp only [ZaJ] at hi
   have hokb:ZbA (K.pm f) (K.dy f) b=true:=by simpa [ZbA] using hok
   obtain ⟨k1,s1⟩:=hcode _ _ _ _ _ _ _ _ hi hl hokb
   refine ⟨k1,fun φ act w hre hrh ht Q hq=>⟨wp_scope_straight ?_,fun b hb=>by cases hb⟩⟩
   refine (s1 φ act w hre hrh ht _ ?_).1
   intro ψ t1 w1 g1 hre1
   cases x with
   | normal=>exact hq ψ t1 w1 g1 hre1
   | ret=>exact hq ψ t1 w1 g1 hre1
   | exit id=>exact hq ψ t1 w1 g1 hre1
 | ret =>
   simp only [ZaJ] at hi
   cases hi
   exact ⟨⟨Nat.le_refl _,fun _ _=>rfl⟩,fun φ a w hre hrh ht Q hq=>⟨wp_ret (hq φ a.tmps w (Goes.refl hrh) hre),fun b hb=>by cases hb⟩⟩
 | rangeFunc=>simp [ZaJ] at hi
 | goto=>simp [ZaJ] at hi
 | refuse=>simp [ZaJ] at hi
theorem Zns {K:Cfg} (hK:CfgOK K) {n:Nat} (hcode:Zev K n):CallOK K.P K.tied (Zbk K (n+1)):=by
 have inv:∀ {low f args h v h'},Zbk K (n+1) low f args h=some (v,h')→K.known low f args h=some (v,h')∨∃ fn c x e',K.ok f=true∧K.P.funcs[f]? =some fn∧fn.body=some c∧ZaJ K n low f c (Env.start fn.ntmps args.toList) h=some (x,e',h') ∧
   (x= .normal∨x= .ret)∧Zdj K.P fn e' h'=some v:=by
  intro low f args h v h' hi
  simp only [Zbk] at hi
  cases hx:K.ext f with
  | some g =>
    rw [hx] at hi
    exact .inl (by simp only [Cfg.known,hx];exact hi)
  | none =>
  rw [hx] at hi
  simp only at hi
  right
  split at hi
  ·rename_i hok
   split at hi
   ·rename_i fn hf
    split at hi
    ·rename_i c hb
     split at hi
     ·rename_i e1 h1 he
      split at hi
      ·rename_i v1 hr
       cases hi
       exact ⟨fn,c,.normal,e1,hok,hf,hb,he,.inl rfl,hr⟩
      ·cases hi
     ·rename_i e1 h1 he
      split at hi
      ·rename_i v1 hr
       cases hi
       exact ⟨fn,c,.ret,e1,hok,hf,hb,he,.inr rfl,hr⟩
      ·cases hi
     ·cases hi
    ·cases hi
   ·cases hi
  ·cases hi
 constructor
 ·intro low f args h v h' hi
  rcases inv hi with hk | ⟨fn,c,x,e',hok,hf,hb,_⟩
  ·exact hK.ext.fn hk
  ·exact ⟨fn,hf,by rw [hb];rfl,(hK.fn f fn c hok hf hb).2⟩
 ·intro low f args h v h' hl hi
  rcases inv hi with hk | ⟨fn,c,x,e',hok,hf,hb,he,_,_⟩
  ·exact hK.ext.keeps hl hk
  ·exact (hcode _ _ _ _ _ _ _ _ he hl (hK.fn f fn c hok hf hb).1).1
 ·intro low f args h v h' hl hi φ w args' hargs hrh ht
  rcases inv hi with hk | ⟨fn,c,x,e',hok,hf,hb,he,hx,hr⟩
  ·exact hK.ext.sound hl hk φ w args' hargs hrh ht
  refine calls_of_wp hf hb ?_
  refine ((hcode _ _ _ _ _ _ _ _ he hl (hK.fn f fn c hok hf hb).1).2 φ _ w (ZlG hargs) hrh ht _ ?_).1
  intro ψ t1 w1 g1 hre1
  obtain ⟨v',q1,q2⟩:=Zi5 (P:=K.P) (fn:=fn) hre1 g1.rh hr
  rcases hx with rfl | rfl<;>exact ⟨rfl,v',q1,ψ,v',rfl,q2,g1⟩
theorem sound {K:Cfg} (hK:CfgOK K):∀ n,Zev K n∧CallOK K.P K.tied (Zbk K n)
 | 0=>by
   refine ⟨?_,?_,?_,?_⟩
   ·intro low f c e h x e' h' hi
    simp [ZaJ] at hi
   ·intro low f args h v h' hi
    simp [Zbk] at hi
   ·intro low f args h v h' hl hi
    simp [Zbk] at hi
   ·intro low f args h v h' hl hi
    simp [Zbk] at hi
 | n+1=>⟨Znn hK (sound hK n).1 (sound hK n).2,Zns hK (sound hK n).1⟩
theorem ZbH {K:Cfg} (hK:CfgOK K) {n low:Nat} {f:FuncId} {args args':Array Value} {h h':Heap} {v:Value} (hl:low≤h.size) (hi:Zbk K n low f args h=some (v,h')) {φ:Zac} {w:World}
  (ha:RL φ args.toList args'.toList) (hr:RH φ h w) (ht:K.tied.holds φ:=by exact True.intro):Calls K.P f args' w fun e w'=>∃ ψ v',e= .returned v'∧RV ψ v v'∧Goes low φ h w ψ h' w' :=
 (sound hK n).2.sound hl hi φ w args' ha hr ht
end Go.Im
