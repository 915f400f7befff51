/- Proved here: parts of the way to BDefnChars (BH22 BH23 BM10 BP4); no condition beyond those that each theorem names. -/
import Derived.Test.YtachkofbmodnnaaGreatDoorU19
import Derived.Test.YtachkofbmodnnaaGreatDoorU20
import Derived.Test.YtachkofbmodnnaaGreatDoorU21
set_option linter.unusedSimpArgs false
set_option linter.unusedVariables false
namespace Go.Im.Heads
open Go Go.Im Go.Im.Lexing
inductive Pc where
 | w (s:List Int)
 | m (c:Int)
 | b
def Pc.txt:Pc→List Int
 | .w s=>s
 | .m c=>[c]
 | .b=>[32]
def ptxt (ps:List Pc):List Int:=ps.flatMap Pc.txt
def ptok:Nat→List Pc→List (Nat × Tk)
 | _,[]=>[]
 | p,.w s::ps=>(p,⟨2,s,0⟩)::ptok (p+s.length) ps
 | p,.m c::ps=>(p,⟨6,[],c⟩)::ptok (p+1) ps
 | p,.b::ps=>ptok (p+1) ps
def isWp:List Pc→Bool
 | .w _::_=>true
 | _=>false
def pok:List Pc→Prop
 | []=>True
 | .w s::ps=>nameOK s=true∧isWp ps=false∧pok ps
 | .m c::ps=>(c=59∨c=8592)∧pok ps
 | .b::ps=>pok ps
theorem name_facts {s:List Int} (h:nameOK s=true):∃ c r,s=c::r∧kindOf c=2∧s.all isW=true:=by
 simp only [nameOK,Bool.and_eq_true,decide_eq_true_eq] at h
 match s,h with
 | [],h=>simp at h
 | c::r,h=>exact ⟨c,r,rfl,by simpa using h.1.2,h.2⟩
theorem stop_txt {ps:List Pc} (h:pok ps) (hw:isWp ps=false):(ptxt ps).takeWhile isW=[]:=by
 match ps,h,hw with
 | [],_,_=>rfl
 | .m c::ps,h,_ =>
   have e:ptxt (.m c::ps)=c::ptxt ps:=rfl
   rw [e]
   rcases h.1 with rfl | rfl<;>rfl
 | .b::ps,_,_=>rfl
theorem tw_all {p:Int→Bool}:∀ {a r:List Int},a.all p=true→r.takeWhile p=[]→(a++r).takeWhile p=a
 | [],r,_,h=>h
 | x::a,r,ha,h=>by
   simp only [List.all_cons,Bool.and_eq_true] at ha
   rw [List.cons_append,List.takeWhile_cons_of_pos ha.1,tw_all ha.2 h]
theorem tok_word {s r:List Int} (h:nameOK s=true) (hr:r.takeWhile isW=[]):tokS (s++r)=some (some ⟨2,s,0⟩,s.length):=by
 obtain ⟨c,t,rfl,hk,ha⟩:=name_facts h
 have htw:=tw_all ha hr
 have hkL:isL c=true∧c≠32:=by
  unfold kindOf at hk
  split at hk
  ·cases hk
  ·rename_i h32
   split at hk
   ·exact ⟨by assumption,h32⟩
   ·repeat' split at hk
    all_goals omega
 have hb:begins (c::t++r)=false:=by
  have h1:isD c=false∧c≠175∧c≠46:=by
   simp only [isL,Bool.or_eq_true,Bool.and_eq_true,decide_eq_true_eq] at hkL
   simp only [isD,Bool.and_eq_false_iff,decide_eq_false_iff_not]
   omega
  simp only [begins,List.cons_append,List.getElem?_cons_zero,h1.1,Bool.false_or]
  simp [h1.2.1,h1.2.2]
 unfold tokS
 rw [List.cons_append,List.getElem?_cons_zero]
 rw [List.cons_append] at hb htw
 simp only [hk,hb]
 simp only [wordS,htw,h]
 simp
theorem lexF_ptok:∀ {ps:List Pc} {f p:Nat},pok ps→ps.length < f→lexF f p (ptxt ps)=some (ptok p ps)
 | _,0,_,_,h=>by omega
 | [],f+1,p,_,_=>rfl
 | .m c::ps,f+1,p,h,hf=>by
   have ih:=lexF_ptok (ps:=ps) (f:=f) (p:=p+1) h.2 (by simpa using hf)
   have e:ptxt (.m c::ps)=c::ptxt ps:=rfl
   have ht:tokS (c::ptxt ps)=some (some ⟨6,[],c⟩,1):=by
    unfold tokS
    rw [List.getElem?_cons_zero]
    rcases h.1 with rfl | rfl<;>rfl
   have hc:c≠9053:=by rcases h.1 with rfl | rfl<;>decide
   rw [e,lexF,List.getElem?_cons_zero]
   simp only [ht,if_neg hc,List.drop_succ_cons,List.drop_zero,ih]
   rfl
 | .b::ps,f+1,p,h,hf=>by
   have ih:=lexF_ptok (ps:=ps) (f:=f) (p:=p+1) h (by simpa using hf)
   have e:ptxt (.b::ps)=32::ptxt ps:=rfl
   have ht:tokS (32::ptxt ps)=some (none,1):=by
    unfold tokS
    rw [List.getElem?_cons_zero]
    rfl
   rw [e,lexF,List.getElem?_cons_zero]
   simp only [ht,show ¬ (32:Int)=9053 by decide,if_false,List.drop_succ_cons,List.drop_zero,ih]
   rfl
 | .w s::ps,f+1,p,h,hf=>by
   have ih:=lexF_ptok (ps:=ps) (f:=f) (p:=p+s.length) h.2.2 (by simpa using hf)
   have e:ptxt (.w s::ps)=s++ptxt ps:=rfl
   have ht:=tok_word h.1 (stop_txt h.2.2 h.2.1)
   obtain ⟨c,r,rfl,hk,_⟩:=name_facts h.1
   have hc:c≠9053:=by
    rintro rfl
    exact absurd hk (by decide)
   rw [e,lexF]
   have e0:(c::r++ptxt ps)[0]? =some c:=rfl
   rw [e0]
   simp only [ht,if_neg hc,List.drop_left,ih]
   rfl
def NK (ts:List (Nat × Tk)):Prop:=∀ t ∈ ts,t.2.kind=2→nameOK t.2.word=true
def wt (t:Nat × Tk):Nat:=if isN t then t.2.word.length else 1
def wts (ts:List (Nat × Tk)):Nat:=(ts.map wt).sum
theorem wts_cons (t:Nat × Tk) (ts:List (Nat × Tk)):wts (t::ts)=wt t+wts ts:=by simp [wts]
theorem tok_wt {s:List Int} {t:Tk} {k:Nat} (h:tokS s=some (some t,k)) (p:Nat):wt (p,t)≤k:=by
 have h1:=tokS_le h
 unfold wt
 by_cases hn:isN (p,t)=true
 ·rw [if_pos hn]
  have hk:t.kind=2:=by simpa [isN] using hn
  have word:∀ {k':Nat} {s':List Int} {g:Tk × Nat→Nat},(∀ x,x.2≤g x)→(wordS k' s').map (fun x=>(some x.1,g x))=some (some t,k)→t.word.length≤k:=by
   intro k' s' g hg hw
   obtain ⟨x,hx,hy⟩:=Option.map_eq_some_iff.1 hw
   cases hy
   unfold wordS at hx
   split at hx
   ·cases hx
    exact hg (⟨k',List.takeWhile isW s',0⟩,(List.takeWhile isW s').length)
   ·cases hx
  have one:∀ {α:Type} {o:Option α} {g:α→Nat},o.map (fun x=>(some (⟨1,[],0⟩:Tk),g x))=some (some t,k)→t.word.length≤k:=by
   intro α o g hw
   obtain ⟨x,hx,hy⟩:=Option.map_eq_some_iff.1 hw
   cases hy
   cases hk
  unfold tokS at h
  repeat' split at h
  all_goals first
   | (cases h;done)
   | (cases h;cases hk;done)
   | exact one h
   | exact word (fun x=>Nat.le_refl _) h
   | exact word (fun x=>by omega) h
 ·rw [if_neg hn]
  omega
theorem lexF_wts:∀ {f p:Nat} {s:List Int} {ts:List (Nat × Tk)},lexF f p s=some ts→wts ts≤s.length
 | 0,_,_,_,h=>by cases h
 | f+1,p,s,ts,h=>by
   simp only [lexF] at h
   split at h
   ·cases h
    simp [wts]
   ·split at h
    ·cases h
     simp [wts]
    ·split at h
     ·cases h
     ·rename_i k ht
      have:=lexF_wts h
      rw [List.length_drop] at this
      omega
     ·rename_i t k ht
      obtain ⟨us,hu,rfl⟩:=Option.map_eq_some_iff.1 h
      have h1:=lexF_wts hu
      have h2:=tok_wt ht p
      have h3:=tokS_le ht
      rw [List.length_drop] at h1
      rw [wts_cons]
      omega
def gp:List (Nat × Tk)→Nat
 | a::b::r=>(if (isN a && isN b)=true then 1 else 0)+gp (b::r)
 | _=>0
theorem gp_tail (a:Nat × Tk) (r:List (Nat × Tk)):gp r≤gp (a::r):=by
 cases r with
 | nil=>simp [gp]
 | cons b r=>simp only [gp];omega
theorem gp_le (a:Nat × Tk) (r:List (Nat × Tk)):gp (a::r)≤gp r+1:=by
 cases r with
 | nil=>simp [gp]
 | cons b r=>simp only [gp];split<;>omega
theorem tok_name {s:List Int} {t:Tk} {k:Nat} (h:tokS s=some (some t,k)) (hk:t.kind=2):s.takeWhile isW≠[]∧k=(s.takeWhile isW).length:=by
 have word:∀ {k':Nat} {s':List Int} {g:Tk × Nat→Nat},(wordS k' s').map (fun x=>(some x.1,g x))=some (some t,k)→k'=2∧s'.takeWhile isW≠[]∧k=g (t,(s'.takeWhile isW).length):=by
  intro k' s' g hw
  obtain ⟨x,hx,hy⟩:=Option.map_eq_some_iff.1 hw
  cases hy
  unfold wordS at hx
  split at hx
  ·rename_i hn
   cases hx
   obtain ⟨c,r,e,_⟩:=name_facts hn
   exact ⟨hk,by rw [e];simp,rfl⟩
  ·cases hx
 have one:∀ {α:Type} {o:Option α} {g:α→Nat} {Q:Prop},o.map (fun x=>(some (⟨1,[],0⟩:Tk),g x))=some (some t,k)→Q:=by
  intro α o g Q hw
  obtain ⟨x,hx,hy⟩:=Option.map_eq_some_iff.1 hw
  cases hy
  cases hk
 unfold tokS at h
 repeat' split at h
 all_goals first
  | (cases h;done)
  | (cases h;cases hk;done)
  | exact one h
  | exact (word h).2
  | exact absurd (word h).1 (by decide)
theorem drop_tw {p:Int→Bool}:∀ s:List Int,(s.drop (s.takeWhile p).length).takeWhile p=[]
 | []=>rfl
 | c::s=>by
   by_cases hc:p c=true
   ·rw [List.takeWhile_cons_of_pos hc]
    exact drop_tw s
   ·rw [List.takeWhile_cons_of_neg hc]
    simp only [List.length_nil,List.drop_zero]
    rw [List.takeWhile_cons_of_neg hc]
theorem lexF_gap:∀ {f p:Nat} {s:List Int} {ts:List (Nat × Tk)},lexF f p s=some ts→wts ts+gp ts≤s.length∧(s.takeWhile isW=[]→∀ u us,ts=u::us→isN u=true→wts ts+gp ts+1≤s.length)
 | 0,_,_,_,h=>by cases h
 | f+1,p,s,ts,h=>by
   simp only [lexF] at h
   split at h
   ·cases h
    exact ⟨by simp [wts,gp],fun _ u us he=>by cases he⟩
   ·split at h
    ·cases h
     exact ⟨by simp [wts,gp],fun _ u us he=>by cases he⟩
    ·split at h
     ·cases h
     ·rename_i k ht
      have h3:=tokS_le ht
      obtain ⟨h1,h2⟩:=lexF_gap h
      rw [List.length_drop] at h1
      exact ⟨by omega,fun _ u us he hu=>by omega⟩
     ·rename_i t k ht
      obtain ⟨us,hu,rfl⟩:=Option.map_eq_some_iff.1 h
      obtain ⟨h1,h2⟩:=lexF_gap hu
      have h3:=tok_wt ht p
      have h4:=tokS_le ht
      have h5:=gp_le (p,t) us
      rw [List.length_drop] at h1 h2
      rw [wts_cons]
      refine ⟨?_,fun hs u vs he hn=> ?_⟩
      ·by_cases hk:t.kind=2
       ·have hkl:=(tok_name ht hk).2
        cases us with
        | nil=>simp only [gp,wts,List.map_nil,List.sum_nil] at h1 ⊢;omega
        | cons u vs =>
          by_cases hun:isN u=true
          ·have hst:(s.drop k).takeWhile isW=[]:=by
            rw [hkl]
            exact drop_tw s
           have:=h2 hst u vs rfl hun
           omega
          ·have:gp ((p,t)::u::vs)=gp (u::vs):=by simp [gp,hun]
           omega
       ·have:gp ((p,t)::us)=gp us:=by
         cases us with
         | nil=>rfl
         | cons u vs=>simp [gp,isN,hk]
        omega
      ·cases he
       have hk:t.kind=2:=by simpa [isN] using hn
       exact absurd hs (tok_name ht hk).1
def lsum (ls:List (List Int)):Nat:=(ls.map List.length).sum
theorem loc_words:∀ {ts:List (Nat × Tk)} {bs:List ByteArray},NK ts→locT ts=some bs→∃ ls:List (List Int),bs=ls.map runesBytes∧(∀ w ∈ ls,nameOK w=true)∧lsum ls+ls.length≤wts ts
 | [],bs,_,h=>by
   cases h
   exact ⟨[],rfl,by simp,by simp [lsum]⟩
 | [a],bs,_,h=>by cases h
 | a::b::r,bs,hN,h=>by
   simp only [locT] at h
   split at h
   ·rename_i hab
    simp only [Bool.and_eq_true] at hab
    obtain ⟨ms,hm,rfl⟩:=Option.map_eq_some_iff.1 h
    obtain ⟨ls,rfl,h1,h2⟩:=loc_words (fun t ht=>hN t (by simp [ht])) hm
    refine ⟨b.2.word::ls,by simp [wd],?_,?_⟩
    ·intro w hw
     rcases List.mem_cons.1 hw with rfl | hw
     ·exact hN b (by simp) (by simpa [isN] using hab.2)
     ·exact h1 w hw
    ·have ha:wt a=1:=by
      have:isN a=false:=by
       have:=hab.1
       simp only [isM,Bool.and_eq_true,decide_eq_true_eq] at this
       simp [isN,this.1]
      simp [wt,this]
     have hb:wt b=b.2.word.length:=by simp [wt,hab.2]
     rw [wts_cons,wts_cons,ha,hb]
     simp only [lsum,List.map_cons,List.sum_cons,List.length_cons] at h2 ⊢
     omega
   ·cases h
theorem names_words:∀ {ts:List (Nat × Tk)},NK ts→∃ ns:List (List Int),(ts.takeWhile isN).map wd=ns.map runesBytes∧(∀ w ∈ ns,nameOK w=true)∧lsum ns+(ns.length - 1)+wts (ts.drop ns.length)≤wts ts+gp ts
 | [],_=>⟨[],rfl,by simp,by simp [lsum,wts,gp]⟩
 | t::ts,hN=>by
   by_cases ht:isN t=true
   ·obtain ⟨ns,h1,h2,h3⟩:=names_words (ts:=ts) fun u hu=>hN u (by simp [hu])
    refine ⟨t.2.word::ns,?_,?_,?_⟩
    ·rw [List.takeWhile_cons_of_pos ht,List.map_cons,List.map_cons,h1]
     rfl
    ·intro w hw
     rcases List.mem_cons.1 hw with rfl | hw
     ·exact hN t (by simp) (by simpa [isN] using ht)
     ·exact h2 w hw
    ·have hb:wt t=t.2.word.length:=by simp [wt,ht]
     have hg:=gp_tail t ts
     have hg2:ns≠[]→gp (t::ts)=gp ts+1:=by
      intro hne
      cases ts with
      | nil=>exact absurd (by simpa using h1.symm) hne
      | cons u us =>
        by_cases hu:isN u=true
        ·simp [gp,ht,hu];omega
        ·rw [List.takeWhile_cons_of_neg hu] at h1
         exact absurd (by simpa using h1.symm) hne
     rw [wts_cons,hb]
     simp only [lsum,List.map_cons,List.sum_cons,List.length_cons,List.drop_succ_cons] at h3 ⊢
     cases ns with
     | nil=>simp only [List.map_nil,List.sum_nil,List.length_nil] at h3 ⊢;omega
     | cons n ns =>
       have:=hg2 (by simp)
       simp only [List.map_cons,List.sum_cons,List.length_cons] at h3 ⊢
       omega
   ·exact ⟨[],by rw [List.takeWhile_cons_of_neg ht];rfl,by simp,by simp [lsum]⟩
theorem res_words {ts:List (Nat × Tk)} (hN:NK ts):∃ re:List Int,(resT ts).1=runesBytes re∧(re=[]∨nameOK re=true)∧NK (resT ts).2∧(if re=[] then 0 else re.length+1)+(wts (resT ts).2+gp (resT ts).2)≤wts ts+gp ts:=by
 match ts,hN with
 | [],hN=>exact ⟨[],rfl,.inl rfl,hN,by simp [resT]⟩
 | [a],hN=>exact ⟨[],rfl,.inl rfl,hN,by simp [resT]⟩
 | a::b::r,hN =>
   simp only [resT]
   split
   ·rename_i hab
    simp only [Bool.and_eq_true] at hab
    have hk:=hN a (by simp) (by simpa [isN] using hab.1)
    refine ⟨a.2.word,rfl,.inr hk,fun t ht=>hN t (by simp [ht]),?_⟩
    have hb:wt b=1:=by
     have:isN b=false:=by
      have:=hab.2
      simp only [isM,Bool.and_eq_true,decide_eq_true_eq] at this
      simp [isN,this.1]
     simp [wt,this]
    have ha:wt a=a.2.word.length:=by simp [wt,hab.1]
    have hne:a.2.word≠[]:=by
     obtain ⟨c,t,h,_⟩:=name_facts hk
     rw [h]
     simp
    have g1:=gp_tail a (b::r)
    have g2:=gp_tail b r
    rw [if_neg hne,wts_cons,wts_cons,ha,hb]
    simp only
    omega
   ·exact ⟨[],rfl,.inl rfl,hN,by simp⟩
def rePc (re:List Int):List Pc:=if re=[] then [] else [.w re,.m 8592]
def nsPc:List (List Int)→List Pc
 | []=>[]
 | [a]=>[.w a]
 | a::b::r=> .w a:: .b::nsPc (b::r)
def lsPc (ls:List (List Int)):List Pc:=ls.flatMap fun w=>[.m 59,.w w]
theorem ls_ok:∀ {ls:List (List Int)},(∀ w ∈ ls,nameOK w=true)→pok (lsPc ls)∧isWp (lsPc ls)=false
 | [],_=>⟨trivial,rfl⟩
 | w::ls,h=>by
   obtain ⟨h1,h2⟩:=ls_ok (ls:=ls) fun u hu=>h u (by simp [hu])
   exact ⟨⟨.inl rfl,h w (by simp),h2,h1⟩,rfl⟩
theorem ns_ok:∀ {ns:List (List Int)} {ps:List Pc},(∀ w ∈ ns,nameOK w=true)→pok ps→isWp ps=false→pok (nsPc ns++ps)
 | [],ps,_,h,_=>h
 | [a],ps,hn,h,hw=>⟨hn a (by simp),hw,h⟩
 | a::b::r,ps,hn,h,hw=>⟨hn a (by simp),rfl,ns_ok (ns:=b::r) (fun u hu=>hn u (by simp [hu])) h hw⟩
theorem re_ok {re:List Int} {ps:List Pc} (h:re=[]∨nameOK re=true) (hp:pok ps):pok (rePc re++ps):=by
 unfold rePc
 by_cases h0:re=[]
 ·rw [if_pos h0]
  exact hp
 ·rw [if_neg h0]
  exact ⟨h.resolve_left h0,rfl,.inr rfl,hp⟩
theorem loc_back:∀ (ls:List (List Int)) (p:Nat),locT (ptok p (lsPc ls))=some (ls.map runesBytes)
 | [],p=>rfl
 | w::ls,p=>by
   have e:ptok p (lsPc (w::ls))=(p,⟨6,[],59⟩)::(p+1,⟨2,w,0⟩)::ptok (p+1+w.length) (lsPc ls):=rfl
   rw [e,locT,loc_back ls]
   rfl
theorem tw_loc (ls:List (List Int)) (p:Nat):(ptok p (lsPc ls)).takeWhile isN=[]:=by
 cases ls<;>rfl
theorem ns_back:∀ (ns:List (List Int)) (ls:List (List Int)) (p:Nat),((ptok p (nsPc ns++lsPc ls)).takeWhile isN).map wd=ns.map runesBytes∧∃ q,(ptok p (nsPc ns++lsPc ls)).drop ns.length=ptok q (lsPc ls)
 | [],ls,p=>⟨by rw [nsPc,List.nil_append,tw_loc];rfl,p,rfl⟩
 | [a],ls,p=>by
   have e:ptok p (nsPc [a]++lsPc ls)=(p,⟨2,a,0⟩)::ptok (p+a.length) (lsPc ls):=rfl
   rw [e,List.takeWhile_cons_of_pos rfl,tw_loc]
   exact ⟨rfl,_,rfl⟩
 | a::b::r,ls,p=>by
   have e:ptok p (nsPc (a::b::r)++lsPc ls)=(p,⟨2,a,0⟩)::ptok (p+a.length+1) (nsPc (b::r)++lsPc ls):=rfl
   obtain ⟨h1,q,h2⟩:=ns_back (b::r) ls (p+a.length+1)
   rw [e,List.takeWhile_cons_of_pos rfl,List.map_cons,h1]
   exact ⟨rfl,q,h2⟩
theorem res_back (re:List Int) {ns:List (List Int)} (hns:ns≠[]) (ls:List (List Int)):∃ q,resT (ptok 0 (rePc re++(nsPc ns++lsPc ls)))=(runesBytes re,ptok q (nsPc ns++lsPc ls)):=by
 unfold rePc
 by_cases h0:re=[]
 ·refine ⟨0,?_⟩
  subst h0
  rw [if_pos rfl,List.nil_append]
  match ns,ls,hns with
  | [a],[],_=>rfl
  | [a],l::ls,_=>rfl
  | [a,b],ls,_=>rfl
  | a::b::c::r,ls,_=>rfl
 ·rw [if_neg h0]
  exact ⟨_,rfl⟩
theorem parse_back {ts:List (Nat × Tk)} {x:HdT} (hN:NK ts) (h:parseT ts=some x):∃ re ns ls,(re=[]∨nameOK re=true)∧(∀ w ∈ ns,nameOK w=true)∧(∀ w ∈ ls,nameOK w=true)∧headT (runesBytes re) (ns.map runesBytes) (ls.map runesBytes)=some x ∧
  parseT (ptok 0 (rePc re++(nsPc ns++lsPc ls)))=some x∧(ptxt (rePc re++(nsPc ns++lsPc ls))).length≤wts ts+gp ts:=by
 obtain ⟨re,r1,r2,r3,r4⟩:=res_words hN
 obtain ⟨ns,n1,n2,n3⟩:=names_words r3
 unfold parseT at h
 simp only at h
 split at h
 ·cases h
 rename_i bs hbs
 have hnl:((resT ts).2.takeWhile isN).map wd=ns.map runesBytes:=n1
 rw [hnl,List.length_map] at hbs
 obtain ⟨ls,rfl,l1,l2⟩:=loc_words (fun t ht=>r3 t (List.mem_of_mem_drop ht)) hbs
 rw [hnl,r1] at h
 split at h
 ·cases h
 rename_i y hy
 split at h
 case isFalse=>cases h
 rename_i hnd
 cases h
 have hns:ns≠[]:=by
  rintro rfl
  cases hy
 have hn3:ns.length≤3:=by
  match ns,hy with
  | [],hy=>simp
  | [a],hy=>simp
  | [a,b],hy=>simp
  | [a,b,c],hy=>simp
  | a::b::c::d::r,hy=>simp [headT] at hy
 refine ⟨re,ns,ls,r2,n2,l1,hy,?_,?_⟩
 ·obtain ⟨q,hq⟩:=res_back re hns ls
  obtain ⟨h1,q2,h2⟩:=ns_back ns ls q
  unfold parseT
  simp only [hq,h1,List.length_map,h2,loc_back,hy]
  rw [if_pos hnd]
 ·have e1:(ptxt (rePc re)).length=if re=[] then 0 else re.length+1:=by
   unfold rePc
   split
   ·rfl
   ·simp [ptxt,Pc.txt]
  have e2:∀ ls:List (List Int),(ptxt (lsPc ls)).length=lsum ls+ls.length:=by
   intro ls
   induction ls with
   | nil=>rfl
   | cons w ls ih =>
     have:ptxt (lsPc (w::ls))=59::(w++ptxt (lsPc ls)):=by simp [ptxt,lsPc,Pc.txt]
     rw [this,List.length_cons,List.length_append,ih]
     simp only [lsum,List.map_cons,List.sum_cons,List.length_cons]
     omega
  have e3:∀ ns:List (List Int),(ptxt (nsPc ns)).length=lsum ns+(ns.length - 1):=by
   intro ns
   induction ns with
   | nil=>rfl
   | cons a ns ih =>
     cases ns with
     | nil=>simp [ptxt,nsPc,Pc.txt,lsum]
     | cons b r =>
       have:ptxt (nsPc (a::b::r))=a++32::ptxt (nsPc (b::r)):=by simp [ptxt,nsPc,Pc.txt]
       rw [this,List.length_append,List.length_cons,ih]
       simp only [lsum,List.map_cons,List.sum_cons,List.length_cons]
       omega
  have e4:ptxt (rePc re++(nsPc ns++lsPc ls))=ptxt (rePc re)++(ptxt (nsPc ns)++ptxt (lsPc ls)):=by simp [ptxt]
  rw [e4,List.length_append,List.length_append,e1,e2,e3]
  omega
theorem kind_valid {c:Int} (h:isW c=true):Utf8.valid c=true:=by
 simp only [isW,Bool.or_eq_true,decide_eq_true_eq] at h
 have:(0≤c∧c < 55296):=by
  rcases h with h | h
  ·unfold kindOf at h
   split at h
   ·cases h
   ·split at h
    ·rename_i hl
     simp only [isL,Bool.or_eq_true,Bool.and_eq_true,decide_eq_true_eq] at hl
     omega
    ·repeat' split at h
     all_goals omega
  ·simp only [isD,Bool.and_eq_true,decide_eq_true_eq] at h
   omega
 simp only [Utf8.valid,Bool.or_eq_true,Bool.and_eq_true,decide_eq_true_eq]
 omega
theorem ptxt_valid:∀ {ps:List Pc},pok ps→∀ c ∈ ptxt ps,Utf8.valid c=true
 | [],_,c,h=>by simp [ptxt] at h
 | .w s::ps,hp,c,h=>by
   have e:ptxt (.w s::ps)=s++ptxt ps:=rfl
   rw [e,List.mem_append] at h
   rcases h with h | h
   ·obtain ⟨_,_,_,_,ha⟩:=name_facts hp.1
    exact kind_valid (List.all_eq_true.1 ha c h)
   ·exact ptxt_valid hp.2.2 c h
 | .m d::ps,hp,c,h=>by
   have e:ptxt (.m d::ps)=d::ptxt ps:=rfl
   rw [e,List.mem_cons] at h
   rcases h with rfl | h
   ·rcases hp.1 with rfl | rfl<;>rfl
   ·exact ptxt_valid hp.2 c h
 | .b::ps,hp,c,h=>by
   have e:ptxt (.b::ps)=32::ptxt ps:=rfl
   rw [e,List.mem_cons] at h
   rcases h with rfl | h
   ·rfl
   ·exact ptxt_valid (ps:=ps) hp c h
theorem ptok_few:∀ (ps:List Pc),pok ps→ps.length≤(ptxt ps).length
 | [],_=>by simp
 | .w s::ps,h=>by
   obtain ⟨c,t,rfl,_⟩:=name_facts h.1
   have:=ptok_few ps h.2.2
   have e:ptxt (.w (c::t)::ps)=(c::t)++ptxt ps:=rfl
   rw [e,List.length_append,List.length_cons,List.length_cons]
   omega
 | .m d::ps,h=>by
   have:=ptok_few ps h.2
   have e:ptxt (.m d::ps)=d::ptxt ps:=rfl
   rw [e,List.length_cons,List.length_cons]
   omega
 | .b::ps,h=>by
   have:=ptok_few ps h
   have e:ptxt (.b::ps)=32::ptxt ps:=rfl
   rw [e,List.length_cons,List.length_cons]
   omega
theorem ptxt_pad (ps:List Pc) (k:Nat):ptxt (ps++List.replicate k .b)=ptxt ps++List.replicate k 32:=by
 have:ptxt (List.replicate k .b)=List.replicate k 32:=by
  induction k with
  | zero=>rfl
  | succ k ih =>
    rw [List.replicate_succ,List.replicate_succ,← ih]
    rfl
 simp only [ptxt,List.flatMap_append] at this ⊢
 rw [this]
theorem pok_blanks:∀ k,pok (List.replicate k .b)
 | 0=>trivial
 | k+1=>pok_blanks k
theorem pok_pad:∀ {ps:List Pc},pok ps→∀ k,pok (ps++List.replicate k .b)
 | [],_,k=>pok_blanks k
 | .w s::ps,h,k=>by
   refine ⟨h.1,?_,pok_pad h.2.2 k⟩
   have:=h.2.1
   cases ps with
   | nil=>cases k<;>rfl
   | cons p ps=>cases p<;>first | rfl | exact absurd this (by simp [isWp])
 | .m c::ps,h,k=>⟨h.1,pok_pad h.2 k⟩
 | .b::ps,h,k=>pok_pad (ps:=ps) h k
theorem ptok_blanks:∀ k p,ptok p (List.replicate k .b)=[]
 | 0,_=>rfl
 | k+1,p=>ptok_blanks k (p+1)
theorem ptok_pad:∀ (ps:List Pc) (k p:Nat),ptok p (ps++List.replicate k .b)=ptok p ps
 | [],k,p=>ptok_blanks k p
 | .w s::ps,k,p=>by rw [List.cons_append,ptok,ptok,ptok_pad]
 | .m c::ps,k,p=>by rw [List.cons_append,ptok,ptok,ptok_pad]
 | .b::ps,k,p=>by rw [List.cons_append,ptok,ptok,ptok_pad]
theorem hdp_back {l:List Int} {x:HdT} (h:hdp l=(x,true)):∃ re ns ls R,R=ptxt (rePc re++(nsPc ns++lsPc ls))∧(re=[]∨nameOK re=true)∧(∀ w ∈ ns,nameOK w=true)∧headT (runesBytes re) (ns.map runesBytes) (ls.map runesBytes)=some x ∧
  (∀ c ∈ R,Utf8.valid c=true)∧R.length≤l.length∧∀ k,R.length+k≤512→hdp (R++List.replicate k 32)=(x,true):=by
 unfold hdp at h
 split at h
 ·cases h
 rename_i ts hts
 split at h
 ·cases h
 rename_i y hy
 cases h
 have hN:NK ts:=lex_ok hts
 obtain ⟨re,ns,ls,h1,h2,h3,h4,h5,h6⟩:=parse_back hN hy
 have hp:pok (rePc re++(nsPc ns++lsPc ls)):=re_ok h1 (ns_ok h2 (ls_ok h3).1 (ls_ok h3).2)
 have hw:wts ts+gp ts≤l.length:=by
  unfold lex at hts
  split at hts
  ·cases hts
  ·exact (lexF_gap hts).1
 refine ⟨re,ns,ls,_,rfl,h1,h2,h4,ptxt_valid hp,by omega,fun k hR=> ?_⟩
 generalize rePc re++(nsPc ns++lsPc ls)=ps at *
 have e:=ptxt_pad ps k
 have hp':=pok_pad hp k
 have hf:=ptok_few _ hp'
 have hln:(ptxt (ps++List.replicate k .b)).length≤512:=by rw [e,List.length_append,List.length_replicate];exact hR
 have hl:lex (ptxt ps++List.replicate k 32)=some (ptok 0 ps):=by
  rw [← e,← ptok_pad ps k 0]
  unfold lex
  rw [if_neg (by omega)]
  exact lexF_ptok hp' (by omega)
 unfold hdp
 rw [hl]
 simp only [h5]
end Go.Im.Heads
namespace Go.Proofs.YtachkofbmodnnaaGreatDoor.H23
open Go Go.Im Go.Im.Limbs Go.Im.Lexing Go.Im.Heads Go.Im.Editing Go.Im.Defn Go.Proofs Go.RowKit Go.Sort H2 H3 H4 H5 D4
set_option maxRecDepth 100000
def rb (l:List Int):List UInt8:=(runesBytes l).data.toList
theorem rb_append (a b:List Int):rb (a++b)=rb a++rb b:=by simp [rb,runes_append,ByteArray.data_append]
theorem rb_ne {l:List Int} (h:l≠[]):rb l≠[]:=by
 have:=runes_pos h
 intro e
 have:(rb l).length=(runesBytes l).size:=by simp [rb]
 rw [e] at this
 simp at this
 omega
theorem rb_name {l:List Int} (h:nameOK l=true):rb l≠[]:=by
 obtain ⟨c,t,rfl,_⟩:=name_facts h
 exact rb_ne (by simp)
theorem rb_re {re:List Int}:rb (ptxt (rePc re))=if rb re=[] then [] else rb re++[226,134,144]:=by
 unfold rePc
 by_cases h:re=[]
 ·subst h
  rfl
 ·rw [if_neg h,if_neg (rb_ne h)]
  have:ptxt [.w re,.m 8592]=re++[8592]:=by simp [ptxt,Pc.txt]
  rw [this,rb_append]
  rfl
theorem rb_ls (ls:List (List Int)):rb (ptxt (lsPc ls))=(ls.map rb).flatMap fun x=>59::x:=by
 induction ls with
 | nil=>rfl
 | cons w ls ih =>
   have:ptxt (lsPc (w::ls))=[59]++(w++ptxt (lsPc ls)):=by simp [ptxt,lsPc,Pc.txt]
   rw [this,rb_append,rb_append,ih,List.map_cons,List.flatMap_cons]
   rfl
theorem rb_two (a b:List Int):rb (a++32::b)=rb a++32::rb b:=by
 rw [rb_append,show (32::b)=[32]++b from rfl,rb_append]
 rfl
theorem txt_back {re:List Int} {ns ls:List (List Int)} {x:HdT} (hn:∀ w ∈ ns,nameOK w=true) (h:headT (runesBytes re) (ns.map runesBytes) (ls.map runesBytes)=some x):text (txtL x)=runesBytes (ptxt (rePc re++(nsPc ns++lsPc ls))):=by
 have e4:ptxt (rePc re++(nsPc ns++lsPc ls))=ptxt (rePc re)++(ptxt (nsPc ns)++ptxt (lsPc ls)):=by simp [ptxt]
 have hg:txtL x=rb (ptxt (rePc re++(nsPc ns++lsPc ls))):=by
  rw [e4,rb_append,rb_append,rb_re,rb_ls]
  have el:∀ ls:List (List Int),(ls.map runesBytes).map (·.data.toList)=ls.map rb:=fun ls=>by rw [List.map_map];rfl
  match ns,hn,h with
  | [f],hn,h =>
    cases h
    have e:ptxt (nsPc [f])=f:=by simp [ptxt,nsPc,Pc.txt]
    simp only [txtL,S3.txt,e,el]
    rfl
  | [f,b],hn,h =>
    cases h
    have e:ptxt (nsPc [f,b])=f++32::b:=by simp [ptxt,nsPc,Pc.txt]
    have hb:=rb_name (hn b (by simp))
    simp only [txtL,S3.txt,e,el,rb_two]
    have hb':¬ (runesBytes b).data.toList=[]:=hb
    rw [if_neg hb',List.append_assoc]
    rfl
  | [a,f,b],hn,h =>
    cases h
    have e:ptxt (nsPc [a,f,b])=a++32::(f++32::b):=by simp [ptxt,nsPc,Pc.txt]
    have hb':¬ (runesBytes b).data.toList=[]:=rb_name (hn b (by simp))
    have ha':¬ (runesBytes a).data.toList=[]:=rb_name (hn a (by simp))
    simp only [txtL,S3.txt,e,el,rb_two]
    rw [if_neg hb',if_neg ha']
    simp [rb,List.append_assoc]
 rw [hg]
 simp [text,rb]
theorem decode_valid (s:ByteArray) (i:Nat):Utf8.valid ((Utf8.decode s i).1:Int)=true:=by
 have e:Utf8.valid ((Utf8.runeError:Nat):Int)=true:=by decide
 have small:∀ n:Nat,n < 55296→Utf8.valid (n:Int)=true:=by
  intro n hn
  simp only [Utf8.valid,Bool.or_eq_true,Bool.and_eq_true,decide_eq_true_eq]
  omega
 unfold Utf8.decode
 simp only
 split
 ·exact small _ (by omega)
 ·split
  ·split
   ·refine small _ ?_
    simp only
    omega
   ·exact e
  ·split
   ·split
    ·rename_i h
     simp only [Bool.and_eq_true] at h
     exact h.2
    ·exact e
   ·split
    ·split
     ·rename_i h
      simp only [Bool.and_eq_true] at h
      exact h.2
     ·exact e
    ·exact e
theorem runesL_valid (s:ByteArray):∀ (f i:Nat),∀ c ∈ runesL s f i,Utf8.valid c=true
 | 0,i,c,h=>by simp [runesL] at h
 | f+1,i,c,h=>by
   rw [runesL] at h
   split at h
   ·rcases List.mem_cons.1 h with rfl | h
    ·exact decode_valid s i
    ·exact runesL_valid s f _ c h
   ·cases h
theorem runesI_valid (s:ByteArray):∀ c ∈ runesI s,Utf8.valid c=true:=runesL_valid s _ _
theorem rv_inj {a b:List Int} (h:rv a=rv b):a=b:=by
 have:∀ {a b:List Int},rv a=rv b→a=b:=by
  intro a
  induction a with
  | nil =>
    intro b h
    cases b with
    | nil=>rfl
    | cons x b=>simp [rv,intCells] at h
  | cons x a ih =>
    intro b h
    cases b with
    | nil=>simp [rv,intCells] at h
    | cons y b =>
      simp only [rv,intCells,List.map_cons,List.cons.injEq,Value.int.injEq,true_and] at h
      rw [h.1,ih (b:=b) h.2]
 exact this h
theorem runesI_back {l:List Int} (hv:∀ c ∈ l,Utf8.valid c=true):runesI (runesBytes l)=l:=by
 have h1:=runes_of hv
 rw [runes_all] at h1
 exact rv_inj h1
theorem dw_head {p:Int→Bool}:∀ {l:List Int} {c:Int},(l.dropWhile p)[0]? =some c→p c=false
 | [],c,h=>by simp at h
 | x::l,c,h=>by
   by_cases hx:p x=true
   ·rw [List.dropWhile_cons_of_pos hx] at h
    exact dw_head h
   ·rw [List.dropWhile_cons_of_neg hx] at h
    simp only [List.getElem?_cons_zero,Option.some.injEq] at h
    rw [← h]
    simpa using hx
theorem blanks_all (k:Nat):(List.replicate k (32:Int)).all isB=true:=by
 rw [List.all_eq_true]
 intro c hc
 rw [(List.mem_replicate.1 hc).2]
 rfl
theorem rtrim_pad (m:List Int) (k:Nat):rtrim (m++List.replicate k 32)=rtrim m:=by
 unfold rtrim
 rw [List.reverse_append,List.reverse_replicate,dw_all (blanks_all k)]
theorem dw_pad {l r:List Int} {p:Int→Bool} (h:l.dropWhile p≠[]):(l++r).dropWhile p=l.dropWhile p++r:=by
 induction l with
 | nil=>exact absurd rfl h
 | cons x l ih =>
   by_cases hx:p x=true
   ·rw [List.cons_append,List.dropWhile_cons_of_pos hx,List.dropWhile_cons_of_pos hx]
    rw [List.dropWhile_cons_of_pos hx] at h
    exact ih h
   ·rw [List.cons_append,List.dropWhile_cons_of_neg hx,List.dropWhile_cons_of_neg hx]
    rfl
theorem dw_nil {p:Int→Bool}:∀ {l:List Int},l.dropWhile p=[]→l.all p=true
 | [],_=>rfl
 | x::l,h=>by
   by_cases hx:p x=true
   ·rw [List.dropWhile_cons_of_pos hx] at h
    rw [List.all_cons,hx,dw_nil h]
    rfl
   ·rw [List.dropWhile_cons_of_neg hx] at h
    cases h
theorem trim_pad (l:List Int) (k:Nat):trimS (l++List.replicate k 32)=trimS l:=by
 unfold trimS
 by_cases h:l.dropWhile isB=[]
 ·have ha:l.all isB=true:=dw_nil h
  have hb:=dw_all (r:=[]) (blanks_all k)
  rw [dw_all ha,h]
  rw [List.append_nil] at hb
  rw [hb]
  rfl
 ·rw [dw_pad h,rtrim_pad]
theorem rtrim_pre (m:List Int):∃ t,m=rtrim m++t:=by
 obtain ⟨t,ht⟩:=List.dropWhile_suffix isB (l:=m.reverse)
 refine ⟨t.reverse,?_⟩
 have:=congrArg List.reverse ht
 rw [List.reverse_append,List.reverse_reverse] at this
 exact this.symm
theorem trim_twice (l:List Int):trimS (trimS l)=trimS l:=by
 obtain ⟨t,ht⟩:=rtrim_pre (l.dropWhile isB)
 have h1:(rtrim (l.dropWhile isB)).dropWhile isB=rtrim (l.dropWhile isB):=by
  refine dw_stop fun c hc=> ?_
  refine dw_head (l:=l) ?_
  rw [ht]
  cases hr:rtrim (l.dropWhile isB) with
  | nil=>rw [hr] at hc;cases hc
  | cons x r=>rw [hr] at hc;exact hc
 have h2:rtrim (rtrim (l.dropWhile isB))=rtrim (l.dropWhile isB):=by
  unfold rtrim
  rw [List.reverse_reverse,dw_stop (p:=isB) (l:=List.dropWhile isB (List.dropWhile isB l).reverse)]
  exact fun c hc=>dw_head hc
 show rtrim ((rtrim (l.dropWhile isB)).dropWhile isB)=_
 rw [h1,h2]
 rfl
theorem trim_mem {l:List Int} {c:Int} (h:c ∈ trimS l):c ∈ l:=by
 obtain ⟨t,ht⟩:=rtrim_pre (l.dropWhile isB)
 have:c ∈ l.dropWhile isB:=by rw [ht];exact List.mem_append.2 (.inl h)
 exact (List.dropWhile_suffix isB).subset this
def padR (W:Nat) (y:ByteArray):ByteArray:=runesBytes (runesI y++List.replicate (W - (runesI y).length) 32)
theorem pad_valid {l:List Int} (hv:∀ c ∈ l,Utf8.valid c=true) (k:Nat):∀ c ∈ l++List.replicate k 32,Utf8.valid c=true:=by
 intro c hc
 rcases List.mem_append.1 hc with hc | hc
 ·exact hv c hc
 ·rw [(List.mem_replicate.1 hc).2]
  decide
theorem runesI_pad (W:Nat) (y:ByteArray):runesI (padR W y)=runesI y++List.replicate (W - (runesI y).length) 32:=runesI_back (pad_valid (runesI_valid y) _)
theorem trim_row (W:Nat) (r:ByteArray):trimS (runesI (padR W (runesBytes (trimS (runesI r)))))=trimS (runesI r):=by
 rw [runesI_pad,trim_pad,runesI_back (fun c hc=>runesI_valid r c (trim_mem hc)),trim_twice]
theorem lines_back {x:HdT} {d:DefT}:∀ {rs:List ByteArray} {i:Nat} {ls:List ByteArray} {lb:List (ByteArray × Nat)} {tk:List ByteArray},linesS x rs i ls lb tk=(d, -1) →
  ∃ ms,d.hd=x∧d.lines=ls++ms∧(∀ y ∈ ms,(runesI y).length≤512)∧∀ W,linesS x (ms.map (padR W)) i ls lb tk=(d, -1)
 | [],i,ls,lb,tk,h=>by
   rw [linesS] at h
   cases h
   exact ⟨[],rfl,by simp,by simp,fun W=>rfl⟩
 | r::rs,i,ls,lb,tk,h=>by
   rw [linesS] at h
   split at h
   ·have:=congrArg Prod.snd h
    simp only at this
    omega
   rename_i hok
   have hlen:(runesI (runesBytes (trimS (runesI r)))).length≤512:=by
    rw [runesI_back (fun c hc=>runesI_valid r c (trim_mem hc))]
    cases hx:lex (trimS (runesI r)) with
    | none=>exact absurd (.inl (by rw [hx];rfl)) hok
    | some ts=>exact lex_512 hx
   split at h
   ·rename_i hE
    obtain ⟨ms,h1,h2,h3,h4⟩:=lines_back h
    refine ⟨runesBytes (trimS (runesI r))::ms,h1,by rw [h2];simp,?_,fun W=> ?_⟩
    ·intro y hy
     rcases List.mem_cons.1 hy with rfl | hy
     ·exact hlen
     ·exact h3 y hy
    ·rw [List.map_cons,lines_none (by rw [trim_row];exact hok) (by rw [trim_row];exact hE),trim_row]
     exact h4 W
   ·rename_i hE
    split at h
    ·have:=congrArg Prod.snd h
     simp only at this
     omega
    ·rename_i hm
     obtain ⟨ms,h1,h2,h3,h4⟩:=lines_back h
     refine ⟨runesBytes (trimS (runesI r))::ms,h1,by rw [h2];simp,?_,fun W=> ?_⟩
     ·intro y hy
      rcases List.mem_cons.1 hy with rfl | hy
      ·exact hlen
      ·exact h3 y hy
     ·rw [List.map_cons,lines_more (by rw [trim_row];exact hok) (by rw [trim_row];exact hE) (by rw [trim_row];exact hm),trim_row]
      exact h4 W
theorem lines_neg {x:HdT}:∀ {rs:List ByteArray} {i:Nat} {ls:List ByteArray} {lb:List (ByteArray × Nat)} {tk:List ByteArray},(linesS x rs i ls lb tk).2 < 0→(linesS x rs i ls lb tk).2= -1
 | [],i,ls,lb,tk,h=>by rw [linesS]
 | r::rs,i,ls,lb,tk,h=>by
   rw [linesS] at h ⊢
   split
   ·rename_i h1
    rw [if_pos h1] at h
    simp only at h
    omega
   ·rename_i h1
    rw [if_neg h1] at h
    split
    ·rename_i h2
     rw [if_pos h2] at h
     exact lines_neg h
    ·rename_i h2
     rw [if_neg h2] at h
     split
     ·rename_i h3
      rw [if_pos h3] at h
      simp only at h
      omega
     ·rename_i h3
      rw [if_neg h3] at h
      exact lines_neg h
theorem make_neg {rows:List ByteArray} (h:(makeS rows).2 < 0):(makeS rows).2= -1:=by
 match rows,h with
 | [],h=>simp [makeS] at h
 | r::rs,h =>
   rw [makeS] at h ⊢
   split
   ·rename_i h1
    rw [if_pos h1] at h
    exact lines_neg h
   ·rename_i h1
    rw [if_neg h1] at h
    simp at h
theorem make_back {rows:List ByteArray} {d:DefT} (h:makeS rows=(d, -1)):(∀ y ∈ rowsT d,(runesI y).length≤512)∧∀ W,W≤512→makeS ((rowsT d).map (padR W))=(d, -1):=by
 match rows,h with
 | [],h=>simp [makeS] at h
 | r::rs,h =>
   rw [makeS] at h
   split at h
   case isFalse=>simp at h
   rename_i hok
   have hX:hdp (runesI r)=((hdp (runesI r)).1,true):=by rw [← hok]
   generalize (hdp (runesI r)).1=x at *
   obtain ⟨ms,h1,h2,h3,h4⟩:=lines_back h
   obtain ⟨re,ns,ls,R,hR,_,hn,hh,hv,hRl,hback⟩:=hdp_back hX
   have htxt:txtB x=runesBytes R:=by
    have:=txt_back hn hh
    rw [← hR] at this
    exact this
   have hl512:(runesI r).length≤512:=by
    unfold hdp at hX
    split at hX
    ·cases hX
    ·rename_i ts hts
     exact lex_512 hts
   have hRI:runesI (txtB x)=R:=by rw [htxt];exact runesI_back hv
   have e:rowsT d=txtB x::ms:=by
    unfold rowsT
    rw [h1,h2]
    rfl
   refine ⟨?_,fun W hW=> ?_⟩
   ·intro y hy
    rw [e] at hy
    rcases List.mem_cons.1 hy with rfl | hy
    ·rw [hRI]
     omega
    ·exact h3 y hy
   ·have hp:hdp (runesI (padR W (txtB x)))=(x,true):=by
     rw [runesI_pad,hRI]
     exact hback _ (by omega)
    rw [e,List.map_cons,makeS,hp]
    simp only [if_true]
    exact h4 W
end Go.Proofs.YtachkofbmodnnaaGreatDoor.H23
namespace Go.Im.Defn
open Go Go.Im Go.Im.Lexing Go.Im.Heads Go.Im.Editing
theorem encode_le (i:Int):(Utf8.encode i).size≤4:=by
 unfold Utf8.encode
 simp only
 repeat' split
 all_goals simp [ByteArray.size]
theorem fold_size (ns:List Int):∀ s:ByteArray,(ns.foldl (fun r n=>r++Utf8.encode n) s).size≤s.size+4*ns.length:=by
 induction ns with
 | nil=>intro s;simp
 | cons n ns ih =>
   intro s
   have h1:=ih (s++Utf8.encode n)
   have h2:=encode_le n
   rw [ByteArray.size_append] at h1
   simp only [List.foldl_cons,List.length_cons]
   omega
theorem runesBytes_size (l:List Int):(runesBytes l).size≤4*l.length:=by
 have:=fold_size l ByteArray.empty
 have e:ByteArray.empty.size=0:=rfl
 rw [e] at this
 unfold runesBytes
 omega
theorem lines_small {n:Nat}:∀ {rs:List ByteArray} {x:HdT} {i:Nat} {ls:List ByteArray} {lb:List (ByteArray × Nat)} {tk:List ByteArray},(∀ y ∈ rs,y.size≤n)→(∀ y ∈ ls,y.size≤4*n)→∀ y ∈ (linesS x rs i ls lb tk).1.lines,y.size≤4*n
 | [],x,i,ls,lb,tk,hr,hl=>by rw [linesS];exact hl
 | r::rs,x,i,ls,lb,tk,hr,hl=>by
   have hr':∀ y ∈ rs,y.size≤n:=fun y hy=>hr y (by simp [hy])
   have hl':∀ y ∈ ls++[runesBytes (trimS (runesI r))],y.size≤4*n:=by
    intro y hy
    rcases List.mem_append.1 hy with hy | hy
    ·exact hl y hy
    ·simp only [List.mem_singleton] at hy
     subst hy
     have h1:=runesBytes_size (trimS (runesI r))
     have h2:=trim_len (runesI r)
     have h3:=runesI_len r
     have h4:=hr r (by simp)
     omega
   rw [linesS]
   split
   ·intro y hy;simp [dZ] at hy
   ·split
    ·exact lines_small hr' hl'
    ·split
     ·intro y hy;simp [dZ] at hy
     ·exact lines_small hr' hl'
theorem make_small {n:Nat} {rows:List ByteArray} (h:∀ y ∈ rows,y.size≤n):∀ y ∈ (makeS rows).1.lines,y.size≤4*n:=by
 match rows,h with
 | [],_=>intro y hy;simp [makeS,dZ] at hy
 | r::rs,h =>
   rw [makeS]
   split
   ·exact lines_small (fun y hy=>h y (by simp [hy])) (by simp)
   ·intro y hy;simp [dZ] at hy
end Go.Im.Defn
namespace Go.Proofs.YtachkofbmodnnaaGreatDoor.M10
open Go Go.Im Go.Im.Limbs Go.Im.Lexing Go.Im.Heads Go.Im.Editing Go.Im.Defn Go.Im.Arrays Go.Proofs Go.RowKit Hd H2 H3 H4 H5 D2 D4 M0 M6 M8 M9 H23
set_option maxRecDepth 100000
theorem txt_size {x:HdT} (G:Heads.Good x):(txtB x).size≤100000:=by
 have hs:∀ b:ByteArray,b.data.toList.length=b.size:=fun b=>by rw [Array.length_toList];rfl
 have hf:∀ ls:List ByteArray,(∀ y ∈ ls,y.size≤96)→((ls.map (·.data.toList)).flatMap fun x=>(59:UInt8)::x).length≤97*ls.length:=by
  intro ls
  induction ls with
  | nil=>intro _;simp
  | cons y ls ih =>
    intro hy
    have h1:=ih fun z hz=>hy z (by simp [hz])
    have h2:=hy y (by simp)
    have h3:=hs y
    simp only [List.map_cons,List.flatMap_cons,List.length_append,List.length_cons,h3]
    omega
 have h1:=hf x.ls G.ls
 have h2:=G.few
 have h3:=G.nm
 have h4:=G.re
 have h5:=G.le
 have h6:=G.ri
 have e:(txtB x).size=(txtL x).length:=by rw [← hs];rfl
 rw [e,txtL,S3.txt]
 have a1:(if x.re.data.toList=[] then [] else x.re.data.toList++[(226:UInt8),134,144]).length≤99:=by
  split
  ·simp
  ·simp only [List.length_append,hs,List.length_cons,List.length_nil];omega
 have a2:(if x.le.data.toList=[] then [] else x.le.data.toList++[(32:UInt8)]).length≤97:=by
  split
  ·simp
  ·simp only [List.length_append,hs,List.length_cons,List.length_nil];omega
 have a3:(if x.ri.data.toList=[] then [] else (32:UInt8)::x.ri.data.toList).length≤97:=by
  split
  ·simp
  ·simp only [hs,List.length_cons];omega
 have a4:=hs x.nm
 simp only [List.length_append]
 omega
theorem bo (d k:Nat):boundOf d (some (.int .i64 ((k:Nat):Int)))=some k:=by simp [boundOf]
end Go.Proofs.YtachkofbmodnnaaGreatDoor.M10
namespace Go.Im.Arrays
open Go Go.Im Go.Im.Lexing Go.Im.Limbs Go.Im.Defn
def AW (w:Heap) (v:Value) (shape:List Int) (ch:Bool) (tx:List Int):Prop:=∃ a c a1 c1 a2 n2 c2,v= .agg #[.slice a shape.length c,.bool ch,.slice a1 tx.length c1,.slice a2 n2 c2,.bool true]∧Sl w 1 a shape.length c (iv shape)∧Sl w 1 a1 tx.length c1 (rv tx)∧(ch=true→n2=0)
theorem AW.ext {w w':Heap} (k:Ext w w') {v:Value} {shape tx:List Int} {ch:Bool} (H:AW w v shape ch tx):AW w' v shape ch tx:=by
 obtain ⟨a,c,a1,c1,a2,n2,c2,h1,h2,h3,h4⟩:=H
 exact ⟨a,c,a1,c1,a2,n2,c2,h1,h2.ext k,h3.ext k,h4⟩
end Go.Im.Arrays
namespace Go.Proofs.YtachkofbmodnnaaGreatDoor.P4
open Go Go.Im Go.Im.Limbs Go.Im.Lexing Go.Im.Heads Go.Im.Editing Go.Im.Dec Go.Im.Defn Go.Im.Arrays Go.Proofs Go.RowKit Hd H2 H3 H5 N13 R4 D2 D3 D4 M8 M9 M10 P2 P3
set_option maxRecDepth 100000
set_option maxHeartbeats 4000000 in
theorem aof_run (p:PlT) (h:Heap) {v:Value} (V:PV h v p) (L:LightP p):Runs K 70 #[v] h fun r w=>∃ u,r= .tuple #[u,.bool true]∧AW w u p.shape p.ch p.tx:=by
 obtain ⟨a,c,a1,c1,a2,c2,rfl,s1,s2,s3⟩:=V
 obtain ⟨few,tl,nl,short,⟨n,hc,hch,hcn⟩,right⟩:=L
 obtain ⟨shape,ch,tx,nums⟩:=p
 simp only at s1 s2 s3 few tl nl short hc hch hcn right ⊢
 suffices H:∀ cb,cb=ch→Runs K 70 #[.agg #[.slice a shape.length c,.bool ch,.slice a1 tx.length c1,.slice a2 nums.length c2]] h fun r w=>∃ u,r= .tuple #[u,.bool true]∧AW w u shape cb tx from H ch rfl
 intro cb hcb
 refine Runs.of Kok (Does.intro rfl (by decide +kernel) Tryz.func70 rfl ?_)
 obtain ⟨w0,e0,x0,hs0,z0,z1⟩:=lay2 h (.cells [.slice a shape.length c,.bool ch,.slice a1 tx.length c1,.slice a2 nums.length c2] 4) (.cells [.slice none 0 0,.bool false,.slice none 0 0,.slice none 0 0,.bool false] 5)
 have y0:∀ {w:Heap},Ext w0 w→w.get h.size=_:=fun k=>(k.2 _ (by omega)).trans z0
 have y1:∀ {w:Heap},Ext w0 w→w.get (h.size+1)=_:=fun k=>(k.2 _ (by omega)).trans z1
 have j1:h.size≤h.size+1:=by omega
 simp +decide only [go_sem,WR,WS,e0,z0]
 refine W_call Kok x0.1 (acount_run shape w0 (s1.ext x0) few) fun r w x hr=> ?_
 obtain ⟨hw,rfl⟩:=hr
 subst hw
 have key:∀ (w1:Heap) (x1:Ext w0 w1) (sa:Option Addr) (sc:Nat) (ss:Sl w1 1 sa shape.length sc (iv shape)) (ta:Option Addr) (tc:Nat) (ts:Sl w1 1 ta tx.length tc (rv tx)),True:=fun _ _ _ _ _ _ _ _=>trivial
 apply W_join (α:=Heap × Option Addr × Nat × Option Addr × Nat) (fun k e w=>Ext w0 k.1∧Ext k.1 w∧w.size=k.1.size+1∧e.size=87∧Sl k.1 1 k.2.1 shape.length k.2.2.1 (iv shape)∧Sl k.1 1 k.2.2.2.1 tx.length k.2.2.2.2 (rv tx)∧w.get k.1.size= .cells [.slice k.2.1 shape.length k.2.2.1,.bool cb,.slice k.2.2.2.1 tx.length k.2.2.2.2,.slice none 0 0,.bool true] 5 ∧
  e.get 1= .pointer (some ⟨h.size,0,none⟩)∧e.get 2= .pointer (some ⟨h.size+1,0,none⟩)∧e.get 6= .pointer (some ⟨k.1.size,0,none⟩))
 ·intro cont
  have rest:∀ (e:Env),True:=fun _=>trivial
  cases ch with
  | true =>
    obtain ⟨q1,q2⟩:=hch rfl
    have b1:(((tx.length:Nat):Int)=(n:Int))=True:=eq_true (by omega)
    have b2:¬ (0:Int) < ((nums.length:Nat):Int):=by rw [q2];simp
    simp +decide only [go_sem,WR,WS,cntV,hc,z0,b1,b2]
    refine W_call Kok x0.1 (clonei_run w0 (s1.ext x0) (by omega)) fun r w1 x1 hr=> ?_
    obtain ⟨sa,sc,rfl,ss⟩:=hr
    simp +decide only [go_sem,WR,WS,y0 x1]
    refine W_call Kok (x0.trans x1).1 (cloner_run w1 (s2.ext (x0.trans x1)) (by omega)) fun r w2 x2 hr=> ?_
    obtain ⟨ta,tc,rfl,ts⟩:=hr
    have K2:=x0.trans (x1.trans x2)
    obtain ⟨w3,e3,x3,hs3,z3⟩:=lay1 w2 (.cells [.slice none 0 0,.bool false,.slice none 0 0,.slice none 0 0,.bool false] 5)
    obtain ⟨w4,e4,x4,hs4,z4,_⟩:=put1 x3 (Nat.le_refl w2.size) (.cells [.slice sa shape.length sc,.bool true,.slice ta tx.length tc,.slice none 0 0,.bool true] 5)
    have l2:h.size≤w2.size:=K2.1
    simp +decide only [go_sem,WS,e3,z3,l2,e4]
    exact cont (w2,sa,sc,ta,tc) _ _ ⟨x1.trans x2,x4,by simp only;omega,by simp +decide only [go_sem],ss.ext x2,ts,by rw [hcb];exact z4,by simp +decide only [go_sem],by simp +decide only [go_sem],by simp +decide only [go_sem]⟩
  | false =>
    obtain ⟨q1,q2⟩:=hcn rfl
    have b1:(((nums.length:Nat):Int)=(n:Int))=True:=eq_true (by omega)
    have b2:¬ (0:Int) < ((tx.length:Nat):Int):=by rw [q2];simp
    simp +decide only [go_sem,WR,WS,cntV,hc,z0,b1,b2]
    refine W_call Kok x0.1 (clonei_run w0 (s1.ext x0) (by omega)) fun r w1 x1 hr=> ?_
    obtain ⟨sa,sc,rfl,ss⟩:=hr
    simp +decide only [go_sem,WR,WS,y0 x1]
    refine W_call Kok (x0.trans x1).1 (cloner_run w1 (s2.ext (x0.trans x1)) (by omega)) fun r w2 x2 hr=> ?_
    obtain ⟨ta,tc,rfl,ts⟩:=hr
    have K2:=x0.trans (x1.trans x2)
    obtain ⟨w3,e3,x3,hs3,z3⟩:=lay1 w2 (.cells [.slice none 0 0,.bool false,.slice none 0 0,.slice none 0 0,.bool false] 5)
    obtain ⟨w4,e4,x4,hs4,z4,_⟩:=put1 x3 (Nat.le_refl w2.size) (.cells [.slice sa shape.length sc,.bool false,.slice ta tx.length tc,.slice none 0 0,.bool true] 5)
    have l2:h.size≤w2.size:=K2.1
    simp +decide only [go_sem,WS,e3,z3,l2,e4]
    exact cont (w2,sa,sc,ta,tc) _ _ ⟨x1.trans x2,x4,by simp only;omega,by simp +decide only [go_sem],ss.ext x2,ts,by rw [hcb];exact z4,by simp +decide only [go_sem],by simp +decide only [go_sem],by simp +decide only [go_sem]⟩
 rintro ⟨B,sa,sc,ta,tc⟩ e w ⟨xB,xw,hsw,hsz,ss,ts,g6,e1',e2',e6⟩
 simp only at xB xw hsw ss ts g6 e6
 have K0:=x0.trans xB
 have lB:h.size≤B.size:=K0.1
 simp +decide only [go_sem,WR,WS,hsz,e1',e2',e6,y0 (xB.trans xw)]
 refine W_loop (α:=Nat × Value × Nat × List Value) (fun k f W=>k.1≤nums.length∧k.2.2.1≤k.1∧f.size=87∧Ext B W∧B.size < W.size∧W.get B.size= .cells [.slice sa shape.length sc,.bool cb,.slice ta tx.length tc,k.2.1,.bool true] 5∧Own B.size W 3 k.2.1 k.2.2.1 k.2.2.2 ∧
  f.get 1= .pointer (some ⟨h.size,0,none⟩)∧f.get 2= .pointer (some ⟨h.size+1,0,none⟩)∧f.get 6= .pointer (some ⟨B.size,0,none⟩)∧f.get 65= .slice a2 nums.length c2∧f.get 66= .int .i64 ((nums.length:Nat):Int)∧f.get 67= .int .i64 (k.1:Int)) (fun k=>nums.length - k.1) (0,.slice none 0 0,0,[]) ?_ ?_
 ·exact ⟨Nat.zero_le _,Nat.le_refl _,by simp +decide only [go_sem,hsz],xw,by omega,g6,Own.nil _ _ _,by simp +decide only [go_sem,hsz,e1'],by simp +decide only [go_sem,hsz,e2'],by simp +decide only [go_sem,hsz,e6],by simp +decide only [go_sem,hsz],by simp +decide only [go_sem,hsz],by simp +decide only [go_sem,hsz];rfl⟩
 clear hsz e1' e2' e6 g6
 rintro ⟨i,nv,m,xs⟩ f W ⟨hi,hm,fsz,xW,hBW,g6,own,f1,f2,f6,f65,f66,f67⟩ next
 simp only at hi hm g6 own f67
 have xh:=K0.trans xW
 obtain ⟨na,nc,rfl⟩:=own.shape
 by_cases hil:(i:Int) < ((nums.length:Nat):Int)
 case neg =>
  have y1W:=y1 (xB.trans xW)
  obtain ⟨w9,e9,x9,hs9,z9,_⟩:=put1 xh j1 (.cells [.slice sa shape.length sc,.bool cb,.slice ta tx.length tc,.slice na m nc,.bool true] 5)
  simp +decide only [go_sem,WR,WS,fsz,f1,f2,f6,f65,f66,f67,hil,g6,y1W,j1,e9,z9]
  exact ⟨_,rfl,sa,sc,ta,tc,na,m,nc,rfl,sl_put (ss.ext xW) y1W (by omega) e9,sl_put (ts.ext xW) y1W (by omega) e9,fun hh=>by
   have hn:=(hch (hcb ▸ hh)).2
   have:nums.length=0:=by rw [hn];rfl
   omega⟩
 obtain ⟨⟨ns,nt,nb⟩,hy⟩:∃ y,nums[i]? =some y:=⟨_,List.getElem?_eq_getElem (by omega)⟩
 obtain ⟨b,o,cs,rfl,p2,p3,p4,p5,_⟩:=sl_num (s3.ext xh) hy
 obtain ⟨M,D,hM,hD,D0,gcd1,sg⟩:=right _ (List.mem_of_getElem? hy)
 have sh:=short _ (List.mem_of_getElem? hy)
 simp only at hM hD p4 sh sg
 subst hM
 subst hD
 have c0:(0:Int)≤(i:Int):=by omega
 have i1:IntKind.i64.wrap ((i:Int)+1)=((i+1:Nat):Int):=by rw [wrap_i64 (by omega) (by omega)];omega
 obtain ⟨u1,f1',k1,hs1,zz1⟩:=lay1 W (.cells [.bool false,.string ByteArray.empty,.string ByteArray.empty] 3)
 obtain ⟨u2,f2',k2,hs2,zz2,_⟩:=put1 k1 (Nat.le_refl W.size) (.cells [.bool ns,.string (text (ds M)),.string (text (ds D))] 3)
 have lW:h.size≤W.size:=xh.1
 have rr:=rof_run M D ns u2 D0 gcd1 sg (by omega) (by omega)
 simp only [numA] at rr
 simp +decide only [go_sem,WR,WS,fsz,f6,f65,f66,f67,hil,c0,Int.toNat_natCast,p3,p4,p5,f1',zz1,lW,f2',zz2]
 refine W_call Kok (xh.trans k2).1 rr fun r u3 k3 hr=> ?_
 obtain ⟨u,rfl,ru⟩:=hr
 obtain ⟨pp,qq,rfl,np,nq⟩:=ru
 obtain ⟨pa,pn,pc,rfl⟩:=natv_slice np
 obtain ⟨qa,qn,qc,rfl⟩:=natv_slice nq
 obtain ⟨u4,f4',k4,hs4,zz4⟩:=lay1 u3 (.cells [.slice none 0 0,.bool false,.slice none 0 0] 3)
 obtain ⟨u5,f5',k5,hs5,zz5,_⟩:=put1 k4 (Nat.le_refl u3.size) (.cells [.slice pa pn pc,.bool ns,.slice qa qn qc] 3)
 have k03:=k2.trans k3
 have l3:h.size≤u3.size:=(xh.trans k03).1
 have k05:=k03.trans k5
 have g65:u5.get B.size=_:=(k05.2 _ hBW).trans g6
 obtain ⟨u6,f6',k6,hs6,zz6⟩:=lay1 u5 (.cells [.slice pa pn pc,.bool ns,.slice qa qn qc] 3)
 have k06:=k05.trans k6
 obtain ⟨u7,f7',own7,hs7,k7,o7⟩:=app_oth (low:=h.size) (bytes:=56) (k:=1) (new:=[.slice pa pn pc,.bool ns,.slice qa qn qc]) lB (xW.trans k06) (own.ext k06) (by omega) (by omega) rfl (by omega) (by omega)
 have hB6:B.size < u6.size:=by have:=k06.1;omega
 have g67:u7.get B.size=_:=(o7 _ hB6 ((own.ext k06).ne ((k06.2 _ hBW).trans g6) (by omega))).trans ((k06.2 _ hBW).trans g6)
 obtain ⟨u8,f8',k8,hs8,zz8,o8⟩:=put1 k7 (Nat.le_refl B.size) (.cells [.slice sa shape.length sc,.bool cb,.slice ta tx.length tc,.slice (some ⟨u6.size,0,none⟩) (m+1) big,.bool true] 5)
 have own8:=own_put own7 g67 (by omega) f8'
 simp +decide only [go_sem,WR,WS,fsz,f6,f67,f4',zz4,l3,f5',zz5,g65,f6',zz6,f7',g67,lB,f8',i1]
 exact next (i+1,.slice (some ⟨u6.size,0,none⟩) (m+1) big,m+1,_) _ _ ⟨by simp only;omega,by simp only;omega,by simp +decide only [go_sem,fsz],k8,by omega,zz8,own8,by simp +decide only [go_sem,fsz,f1],by simp +decide only [go_sem,fsz,f2],by simp +decide only [go_sem,fsz,f6],by simp +decide only [go_sem,fsz,f65],by simp +decide only [go_sem,fsz,f66],by simp +decide only [go_sem,fsz]⟩ (by simp only;omega)
theorem lawof_run (p:PlT) (h:Heap) {v:Value} (V:PV h v p) (L:LightP p):Runs K 26 #[v] h fun r w=>AW w r p.shape p.ch p.tx:=by
 have V0:=V
 obtain ⟨a,c,a1,c1,a2,c2,rfl,s1,s2,s3⟩:=V0
 refine Runs.of Kok (Does.intro rfl (by decide +kernel) Tryz.func26 rfl ?_)
 obtain ⟨w0,e0,x0,hs0,z0,z1⟩:=lay2 h (.cells [.slice a p.shape.length c,.bool p.ch,.slice a1 p.tx.length c1,.slice a2 p.nums.length c2] 4) (.cells [.slice none 0 0,.bool false,.slice none 0 0,.slice none 0 0,.bool false] 5)
 have j1:h.size≤h.size+1:=by omega
 simp +decide only [go_sem,WR,WS,e0,z0]
 refine W_call Kok x0.1 (aof_run p w0 (V.ext x0) L) fun r w1 x1 hr=> ?_
 obtain ⟨u,rfl,U⟩:=hr
 have U0:=U
 obtain ⟨b,d,b1,d1,b2,n2,d2,rfl,t1,t2,t3⟩:=U0
 have K1:=x0.trans x1
 have l1:h.size≤w1.size:=K1.1
 obtain ⟨w2,e2,x2,hs2,z2⟩:=lay1 w1 (.cells [.slice none 0 0,.bool false,.slice none 0 0,.slice none 0 0,.bool false] 5)
 obtain ⟨w3,e3,x3,hs3,z3,_⟩:=put1 x2 (Nat.le_refl w1.size) (.cells [.slice b p.shape.length d,.bool p.ch,.slice b1 p.tx.length d1,.slice b2 n2 d2,.bool true] 5)
 have y1:w3.get (h.size+1)=_:=((x1.trans x3).2 _ (by omega)).trans z1
 obtain ⟨w4,e4,x4,hs4,z4,_⟩:=put1 (K1.trans x3) j1 (.cells [.slice b p.shape.length d,.bool p.ch,.slice b1 p.tx.length d1,.slice b2 n2 d2,.bool true] 5)
 simp +decide only [go_sem,WR,WS,e2,z2,l1,e3,z3,y1,j1,e4,z4]
 exact ⟨b,d,b1,d1,b2,n2,d2,rfl,sl_put (t1.ext x3) y1 (by omega) e4,sl_put (t2.ext x3) y1 (by omega) e4,t3⟩
end Go.Proofs.YtachkofbmodnnaaGreatDoor.P4
