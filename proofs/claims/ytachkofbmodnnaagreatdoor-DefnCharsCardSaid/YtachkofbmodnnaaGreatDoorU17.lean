/- Proved here: parts of the way to BDefnChars (BV1 BH1 BH5); no condition beyond those that each theorem names. -/
import Derived.Test.YtachkofbmodnnaaGreatDoorU4
import Derived.Test.YtachkofbmodnnaaGreatDoorU16
set_option linter.unusedSimpArgs false
set_option linter.unusedVariables false
namespace Go.Im.Heads
open Go Go.Im Go.Im.Lexing
abbrev E:ByteArray:=ByteArray.empty
theorem encode_pos (i:Int):0 < (Utf8.encode i).size:=by
 unfold Utf8.encode
 simp only
 repeat' split
 all_goals simp [ByteArray.size]
theorem foldl_le (ns:List Int):∀ s:ByteArray,s.size≤(ns.foldl (fun r n=>r++Utf8.encode n) s).size:=by
 induction ns with
 | nil=>intro s;simp
 | cons n ns ih =>
   intro s
   have h1:=ih (s++Utf8.encode n)
   simp only [List.foldl_cons]
   rw [ByteArray.size_append] at h1
   omega
theorem runes_pos {ns:List Int} (h:ns≠[]):0 < (runesBytes ns).size:=by
 cases ns with
 | nil=>exact absurd rfl h
 | cons n ns =>
   have h1:=foldl_le ns (ByteArray.empty++Utf8.encode n)
   have h2:=encode_pos n
   simp only [runesBytes,List.foldl_cons]
   rw [ByteArray.size_append] at h1
   omega
theorem enc_fold (ns:List Int):∀ s:ByteArray,ns.foldl (fun r n=>r++Utf8.encode n) s=s++runesBytes ns:=by
 induction ns with
 | nil=>intro s;simp [runesBytes]
 | cons n ns ih =>
   intro s
   have e:runesBytes (n::ns)=ns.foldl (fun r n=>r++Utf8.encode n) (ByteArray.empty++Utf8.encode n):=rfl
   rw [List.foldl_cons,ih,e,ih,ByteArray.append_assoc,ByteArray.empty_append]
theorem runes_cons (n:Int) (ns:List Int):runesBytes (n::ns)=Utf8.encode n++runesBytes ns:=by
 have e:runesBytes (n::ns)=ns.foldl (fun r n=>r++Utf8.encode n) (ByteArray.empty++Utf8.encode n):=rfl
 rw [e,enc_fold]
 simp
theorem runes_nil:runesBytes []=E:=rfl
theorem runes_append (a b:List Int):runesBytes (a++b)=runesBytes a++runesBytes b:=by
 induction a with
 | nil=>simp [runes_nil,E]
 | cons n a ih=>rw [List.cons_append,runes_cons,runes_cons,ih,ByteArray.append_assoc]
theorem get_app {a b:ByteArray} {k:Nat} (h:k < b.size):(a++b).get! (a.size+k)=b.get! k:=by
 have h1:a.size+k < (a++b).size:=by rw [ByteArray.size_append];omega
 have e1:(a++b).get! (a.size+k)=(a++b)[a.size+k]'h1:=by
  show (a++b).data[a.size+k]! =_
  rw [getElem!_pos]
  rfl
 have e2:b.get! k=b[k]'h:=by
  show b.data[k]! =_
  rw [getElem!_pos]
  rfl
 rw [e1,e2,ByteArray.getElem_append_right (by omega)]
 congr 1
 omega
theorem get_app_l {a b:ByteArray} {k:Nat} (h:k < a.size):(a++b).get! k=a.get! k:=by
 have h1:k < (a++b).size:=by rw [ByteArray.size_append];omega
 have e1:(a++b).get! k=(a++b)[k]'h1:=by
  show (a++b).data[k]! =_
  rw [getElem!_pos]
  rfl
 have e2:a.get! k=a[k]'h:=by
  show a.data[k]! =_
  rw [getElem!_pos]
  rfl
 rw [e1,e2,ByteArray.getElem_append_left h]
theorem u8 {n:Nat} (h:n < 256):(UInt8.ofNat n).toNat=n:=by
 simp
 omega
theorem decode_encode (c:Int) (hv:Utf8.valid c=true) (b:ByteArray):Utf8.decode (Utf8.encode c++b) 0=(c.toNat,(Utf8.encode c).size):=by
 have hr:(0≤c∧c < 55296)∨(57344≤c∧c≤1114111):=by
  simp only [Utf8.valid,Bool.or_eq_true,Bool.and_eq_true,decide_eq_true_eq] at hv
  omega
 obtain ⟨m,rfl⟩:∃ m:Nat,c=(m:Int):=⟨c.toNat,by omega⟩
 have he:Utf8.encode (m:Int)=if m < 0x80 then ⟨#[UInt8.ofNat m]⟩ else if m < 0x800 then ⟨#[UInt8.ofNat (0xC0+m / 64),UInt8.ofNat (0x80+m%64)]⟩
   else if m < 0x10000 then ⟨#[UInt8.ofNat (0xE0+m / 4096),UInt8.ofNat (0x80+m / 64%64),UInt8.ofNat (0x80+m%64)]⟩
   else ⟨#[UInt8.ofNat (0xF0+m / 262144),UInt8.ofNat (0x80+m / 4096%64),UInt8.ofNat (0x80+m / 64%64),UInt8.ofNat (0x80+m%64)]⟩:=by
  simp only [Utf8.encode,hv,if_true,Int.toNat_natCast]
 rw [Int.toNat_natCast,he]
 unfold Utf8.decode
 by_cases h1:m < 0x80
 ·simp only [if_pos h1]
  have g0:((⟨#[UInt8.ofNat m]⟩:ByteArray)++b).get! (0+0)=UInt8.ofNat m:=get_app_l (a:=⟨#[UInt8.ofNat m]⟩) (k:=0) Nat.one_pos
  simp only [g0,u8 (show m < 256 by omega),if_pos h1]
  rfl
 ·simp only [if_neg h1]
  by_cases h2:m < 0x800
  ·simp only [if_pos h2]
   generalize hA:(⟨#[UInt8.ofNat (0xC0+m / 64),UInt8.ofNat (0x80+m%64)]⟩:ByteArray)=A
   have sz:A.size=2:=by rw [← hA];rfl
   have g0:(A++b).get! (0+0)=UInt8.ofNat (0xC0+m / 64):=by rw [get_app_l (by omega),← hA];rfl
   have g1:(A++b).get! (0+1)=UInt8.ofNat (0x80+m%64):=by rw [get_app_l (by omega),← hA];rfl
   have hs:0+1 < (A++b).size:=by rw [ByteArray.size_append];omega
   simp only [g0,g1,u8 (show 0xC0+m / 64 < 256 by omega),u8 (show 0x80+m%64 < 256 by omega),hs,decide_true,Bool.true_and]
   have q1:¬ 0xC0+m / 64 < 0x80:=by omega
   have q2:(0xC0+m / 64) / 32=6:=by omega
   have q3:(0x80+m%64) / 64=2:=by omega
   have q4:(0xC0+m / 64)%32*64+(0x80+m%64)%64=m:=by omega
   have q5:m ≥ 0x80:=by omega
   simp only [q1,if_false,q2,beq_self_eq_true,q3,Bool.and_self,if_true,q4,q5,sz]
  ·simp only [if_neg h2]
   by_cases h3:m < 0x10000
   ·simp only [if_pos h3]
    generalize hA:(⟨#[UInt8.ofNat (0xE0+m / 4096),UInt8.ofNat (0x80+m / 64%64),UInt8.ofNat (0x80+m%64)]⟩:ByteArray)=A
    have sz:A.size=3:=by rw [← hA];rfl
    have g0:(A++b).get! (0+0)=UInt8.ofNat (0xE0+m / 4096):=by rw [get_app_l (by omega),← hA];rfl
    have g1:(A++b).get! (0+1)=UInt8.ofNat (0x80+m / 64%64):=by rw [get_app_l (by omega),← hA];rfl
    have g2:(A++b).get! (0+2)=UInt8.ofNat (0x80+m%64):=by rw [get_app_l (by omega),← hA];rfl
    have hs:0+1 < (A++b).size:=by rw [ByteArray.size_append];omega
    have hs2:0+2 < (A++b).size:=by rw [ByteArray.size_append];omega
    simp only [g0,g1,g2,u8 (show 0xE0+m / 4096 < 256 by omega),u8 (show 0x80+m / 64%64 < 256 by omega),u8 (show 0x80+m%64 < 256 by omega),hs,hs2,decide_true,Bool.true_and]
    have q1:¬ 0xE0+m / 4096 < 0x80:=by omega
    have q2:¬ (0xE0+m / 4096) / 32=6:=by omega
    have q2':(0xE0+m / 4096) / 16=14:=by omega
    have q3:(0x80+m / 64%64) / 64=2:=by omega
    have q3':(0x80+m%64) / 64=2:=by omega
    have q4:(0xE0+m / 4096)%16*4096+(0x80+m / 64%64)%64*64+(0x80+m%64)%64=m:=by omega
    have q5:m ≥ 0x800:=by omega
    simp only [q1,if_false,beq_eq_false_iff_ne.2 q2,Bool.false_and,Bool.false_eq_true,q2',beq_self_eq_true,q3,q3',Bool.and_self,if_true,q4,q5,decide_true,hv,sz]
   ·simp only [if_neg h3]
    generalize hA:(⟨#[UInt8.ofNat (0xF0+m / 262144),UInt8.ofNat (0x80+m / 4096%64),UInt8.ofNat (0x80+m / 64%64),UInt8.ofNat (0x80+m%64)]⟩:ByteArray)=A
    have sz:A.size=4:=by rw [← hA];rfl
    have g0:(A++b).get! (0+0)=UInt8.ofNat (0xF0+m / 262144):=by rw [get_app_l (by omega),← hA];rfl
    have g1:(A++b).get! (0+1)=UInt8.ofNat (0x80+m / 4096%64):=by rw [get_app_l (by omega),← hA];rfl
    have g2:(A++b).get! (0+2)=UInt8.ofNat (0x80+m / 64%64):=by rw [get_app_l (by omega),← hA];rfl
    have g3:(A++b).get! (0+3)=UInt8.ofNat (0x80+m%64):=by rw [get_app_l (by omega),← hA];rfl
    have hs:0+1 < (A++b).size:=by rw [ByteArray.size_append];omega
    have hs2:0+2 < (A++b).size:=by rw [ByteArray.size_append];omega
    have hs3:0+3 < (A++b).size:=by rw [ByteArray.size_append];omega
    simp only [g0,g1,g2,g3,u8 (show 0xF0+m / 262144 < 256 by omega),u8 (show 0x80+m / 4096%64 < 256 by omega),u8 (show 0x80+m / 64%64 < 256 by omega),u8 (show 0x80+m%64 < 256 by omega),hs,hs2,hs3,decide_true,Bool.true_and]
    have q1:¬ 0xF0+m / 262144 < 0x80:=by omega
    have q2:¬ (0xF0+m / 262144) / 32=6:=by omega
    have q2':¬ (0xF0+m / 262144) / 16=14:=by omega
    have q2'':(0xF0+m / 262144) / 8=30:=by omega
    have q3:(0x80+m / 4096%64) / 64=2:=by omega
    have q3':(0x80+m / 64%64) / 64=2:=by omega
    have q3'':(0x80+m%64) / 64=2:=by omega
    have q4:(0xF0+m / 262144)%8*262144+(0x80+m / 4096%64)%64*4096+(0x80+m / 64%64)%64*64+(0x80+m%64)%64=m:=by omega
    have q5:m ≥ 0x10000:=by omega
    simp only [q1,if_false,beq_eq_false_iff_ne.2 q2,beq_eq_false_iff_ne.2 q2',Bool.false_and,Bool.false_eq_true,q2'',beq_self_eq_true,q3,q3',q3'',Bool.and_self,if_true,q4,q5,decide_true,hv,sz]
theorem decode_congr {s t:ByteArray} {i j:Nat} (h0:s.get! (i+0)=t.get! (j+0)) (hk:∀ k,i+k < s.size↔j+k < t.size) (hg:∀ k,j+k < t.size→s.get! (i+k)=t.get! (j+k)):Utf8.decode s i=Utf8.decode t j:=by
 unfold Utf8.decode
 simp only [h0]
 by_cases c1:j+1 < t.size
 ·have d1:=(hk 1).2 c1
  simp only [hg 1 c1,c1,d1,decide_true,Bool.true_and]
  by_cases c2:j+2 < t.size
  ·have d2:=(hk 2).2 c2
   simp only [hg 2 c2,c2,d2,decide_true,Bool.true_and]
   by_cases c3:j+3 < t.size
   ·have d3:=(hk 3).2 c3
    simp only [hg 3 c3,c3,d3,decide_true,Bool.true_and]
   ·have d3:¬ i+3 < s.size:=fun h=>c3 ((hk 3).1 h)
    simp only [c3,d3,decide_false,Bool.false_and,Bool.and_false,Bool.false_eq_true,if_false]
  ·have d2:¬ i+2 < s.size:=fun h=>c2 ((hk 2).1 h)
   simp only [c2,d2,decide_false,Bool.false_and,Bool.and_false,Bool.false_eq_true,if_false]
 ·have d1:¬ i+1 < s.size:=fun h=>c1 ((hk 1).1 h)
  simp only [c1,d1,decide_false,Bool.false_and,Bool.and_false,Bool.false_eq_true,if_false]
theorem decode_shift (a b:ByteArray) (hb:0 < b.size):Utf8.decode (a++b) a.size=Utf8.decode b 0:=by
 refine decode_congr (get_app (by omega)) (fun k=> ?_) fun k hk=> ?_
 ·rw [ByteArray.size_append]
  omega
 ·rw [get_app (by omega),Nat.zero_add]
theorem runesFrom_runes:∀ (ns:List Int) (a:ByteArray) (f:Nat) (acc:Array Value),(∀ c ∈ ns,Utf8.valid c=true)→ns.length≤f→Conv.runesFrom (a++runesBytes ns) f a.size acc=acc++(rv ns).toArray
 | [],a,f,acc,_,_=>by
   have e:(a++runesBytes []).size=a.size:=by rw [runes_nil,ByteArray.size_append];rfl
   cases f with
   | zero=>simp [Conv.runesFrom,rv,intCells]
   | succ f=>simp [Conv.runesFrom,rv,intCells,e]
 | c::ns,a,f,acc,hv,hf=>by
   cases f with
   | zero=>simp at hf
   | succ f =>
     have hc:=hv c (by simp)
     have hp:=encode_pos c
     have hd:Utf8.decode (a++runesBytes (c::ns)) a.size=(c.toNat,(Utf8.encode c).size):=by rw [decode_shift _ _ (runes_pos (by simp)),runes_cons,decode_encode c hc]
     have h0:a.size < (a++runesBytes (c::ns)).size:=by
      rw [runes_cons,ByteArray.size_append,ByteArray.size_append]
      omega
     have hz:0≤c:=by
      simp only [Utf8.valid,Bool.or_eq_true,Bool.and_eq_true,decide_eq_true_eq] at hc
      omega
     rw [Conv.runesFrom,if_pos h0,hd]
     simp only
     have e:a++runesBytes (c::ns)=(a++Utf8.encode c)++runesBytes ns:=by rw [runes_cons,ByteArray.append_assoc]
     have es:a.size+(Utf8.encode c).size=(a++Utf8.encode c).size:=by rw [ByteArray.size_append]
     rw [e,es,runesFrom_runes ns _ f _ (fun d hd=>hv d (by simp [hd])) (by simpa using hf)]
     have ec:Int.ofNat c.toNat=c:=by
      show ((c.toNat:Nat):Int)=c
      omega
     rw [ec]
     simp [rv,intCells]
theorem runes_len (ns:List Int):ns.length≤(runesBytes ns).size:=by
 induction ns with
 | nil=>simp
 | cons n ns ih =>
   have:=encode_pos n
   rw [runes_cons,ByteArray.size_append,List.length_cons]
   omega
theorem runes_of {ns:List Int} (hv:∀ c ∈ ns,Utf8.valid c=true):(Conv.runesFrom (runesBytes ns) (runesBytes ns).size 0 #[]).toList=rv ns:=by
 have:=runesFrom_runes ns ByteArray.empty (runesBytes ns).size #[] hv (runes_len ns)
 have e:ByteArray.empty++runesBytes ns=runesBytes ns:=by simp
 rw [e] at this
 have h0:ByteArray.empty.size=0:=rfl
 rw [h0] at this
 rw [this]
 simp
end Go.Im.Heads
namespace Go.Im.Heads
open Go Go.Im Go.Im.Lexing Go.Sort
theorem compact_le (zs:List (List UInt8)):(Lib.compact zs).length≤zs.length:=by
 simp only [Lib.compact,Lib.compactUpTo,List.length_map]
 have:=List.length_filter_le (Lib.keeps zs.toArray) (List.range zs.length)
 simpa using this
theorem compact_eq (zs:List (List UInt8)):(Lib.compact zs).length=zs.length↔∀ j,j < zs.length→Lib.keeps zs.toArray j=true:=by
 simp only [Lib.compact,Lib.compactUpTo,List.length_map]
 have:=List.length_filter_eq_length_iff (p:=Lib.keeps zs.toArray) (l:=List.range zs.length)
 simp only [List.length_range,List.mem_range] at this
 exact this
theorem sorted_pair (ss:List (List UInt8)):(sorted ss).Pairwise fun x y=>x≤y:=by
 have:=List.pairwise_mergeSort (le:=fun (x y:List UInt8)=>decide (x≤y)) (fun a b c h1 h2=>by
  simp only [decide_eq_true_eq] at *
  exact List.le_trans h1 h2) (fun a b=>by
  simp only [Bool.or_eq_true,decide_eq_true_eq]
  exact List.le_total a b) ss
 simpa [sorted] using this
theorem keeps_nodup {zs:List (List UInt8)} (hs:zs.Pairwise fun x y=>x≤y):(∀ j,j < zs.length→Lib.keeps zs.toArray j=true)↔zs.Nodup:=by
 have get:∀ j,j < zs.length→zs.toArray[j]! =zs[j]! :=fun j hj=>by simp
 constructor
 ·intro h
  rw [List.Nodup,List.pairwise_iff_getElem] at *
  intro i j hi hj hij he
  have hk:=h j hj
  simp only [Lib.keeps,decide_eq_true_eq] at hk
  rcases hk with hk | hk
  ·omega
  ·apply hk
   rw [get j hj,get (j - 1) (by omega),getElem!_pos zs j hj,getElem!_pos zs (j - 1) (by omega)]
   rcases Nat.lt_or_ge i (j - 1) with hlt | hge
   ·exact List.le_antisymm (by rw [← he];exact hs i (j - 1) hi (by omega) hlt) (hs (j - 1) j (by omega) hj (by omega))
   ·have:i=j - 1:=by omega
    subst this
    exact he.symm
 ·intro h j hj
  simp only [Lib.keeps,decide_eq_true_eq]
  by_cases h0:j=0
  ·exact .inl h0
  ·right
   rw [List.Nodup,List.pairwise_iff_getElem] at h
   rw [get j hj,get (j - 1) (by omega),getElem!_pos zs j hj,getElem!_pos zs (j - 1) (by omega)]
   exact fun e=>h (j - 1) j (by omega) hj (by omega) e.symm
theorem sorted_length (ss:List (List UInt8)):(sorted ss).length=ss.length:=by simp [sorted]
theorem apart_iff (ss:List (List UInt8)):(Lib.compact (sorted ss)).length=ss.length↔ss.Nodup:=by
 rw [← sorted_length ss,compact_eq,keeps_nodup (sorted_pair ss)]
 exact (List.mergeSort_perm ss _).nodup_iff
theorem word_ok {k:Nat} {s:List Int} {t:Tk} {m:Nat} (h:wordS k s=some (t,m)):t.kind=k∧nameOK t.word=true:=by
 unfold wordS at h
 split at h
 ·rename_i hn
  cases h
  exact ⟨rfl,hn⟩
 ·cases h
theorem tok_ok {s:List Int} {t:Tk} {k:Nat} (h:tokS s=some (some t,k)) (h2:t.kind=2):nameOK t.word=true:=by
 unfold tokS at h
 have two:∀ {k':Nat} {u:Tk} {s':List Int} {o:Option (Tk × Nat)} {g:Tk × Nat→Nat},o=wordS k' s'→o.map (fun x=>(some x.1,g x))=some (some t,k)→nameOK t.word=true:=by
  intro k' u s' o g ho h
  obtain ⟨x,hw,hx⟩:=Option.map_eq_some_iff.1 h
  cases hx
  rw [ho] at hw
  exact (word_ok hw).2
 have one:∀ {α:Type} {o:Option α} {g:α→Option Tk × Nat},(∀ x,(g x).1=some ⟨1,[],0⟩)→o.map g=some (some t,k)→nameOK t.word=true:=by
  intro α o g hg h
  obtain ⟨x,hw,hx⟩:=Option.map_eq_some_iff.1 h
  have:=hg x
  rw [hx] at this
  cases this
  cases h2
 cases hd:s[1]? <;>simp only [hd] at h
 all_goals
  split at h
  ·cases h
  ·split at h
   ·cases h
   ·split at h
    ·exact one (fun _=>rfl) h
    ·split at h
     ·exact two (u:=t) rfl h
     ·split at h
      ·exact one (fun _=>rfl) h
      ·split at h
       ·exact two (u:=t) rfl h
       ·split at h
        ·cases h
         cases h2
        ·split at h
         ·cases h
          cases h2
         ·split at h
          ·cases h
           cases h2
          ·cases h
theorem lexF_ok:∀ {f p:Nat} {s:List Int} {ts:List (Nat × Tk)},lexF f p s=some ts→∀ t ∈ ts,t.2.kind=2→nameOK t.2.word=true
 | 0,p,s,ts,h=>by cases h
 | f+1,p,s,ts,h=>by
   simp only [lexF] at h
   split at h
   ·cases h
    simp
   ·split at h
    ·cases h
     simp
    ·split at h
     ·cases h
     ·exact lexF_ok h
     ·rename_i t k ht
      obtain ⟨us,hu,rfl⟩:=Option.map_eq_some_iff.1 h
      intro x hx h2
      rcases List.mem_cons.1 hx with rfl | hx
      ·exact tok_ok ht h2
      ·exact lexF_ok hu x hx h2
theorem lex_ok {l:List Int} {ts:List (Nat × Tk)} (h:lex l=some ts):∀ t ∈ ts,t.2.kind=2→nameOK t.2.word=true:=by
 unfold lex at h
 split at h
 ·cases h
 ·exact lexF_ok h
theorem name_sizes {w:List Int} (h:nameOK w=true):0 < (runesBytes w).size∧(runesBytes w).size≤96:=by
 simp only [nameOK,Bool.and_eq_true,decide_eq_true_eq] at h
 have h1:=runesBytes_size_le w
 exact ⟨runes_pos (by intro e;subst e;simp at h),by omega⟩
structure HdT where
 nm:ByteArray
 re:ByteArray
 le:ByteArray
 ri:ByteArray
 ls:List ByteArray
def hdZ:HdT:=⟨E,E,E,E,[]⟩
def wd (t:Nat × Tk):ByteArray:=runesBytes t.2.word
def isN (t:Nat × Tk):Bool:=decide (t.2.kind=2)
def locT:List (Nat × Tk)→Option (List ByteArray)
 | []=>some []
 | [_]=>none
 | a::b::r=>if isM a.2 59 && isN b then (locT r).map (wd b::·) else none
def resT (ts:List (Nat × Tk)):ByteArray × List (Nat × Tk):=match ts with
 | a::b::r=>if isN a && isM b.2 8592 then (wd a,r) else (E,ts)
 | _=>(E,ts)
def headT (re:ByteArray) (ns:List ByteArray) (ls:List ByteArray):Option HdT:=match ns with
 | [f]=>some ⟨f,re,E,E,ls⟩
 | [f,b]=>some ⟨f,re,E,b,ls⟩
 | [a,f,b]=>some ⟨f,re,a,b,ls⟩
 | _=>none
def HdT.names (x:HdT):List ByteArray:=([x.re,x.le,x.ri].filter fun s=> !decide (s=E))++x.ls
def HdT.all (x:HdT):List ByteArray:=x.names++[x.nm]
instance:Inhabited HdT:=⟨hdZ⟩
def parseT (ts:List (Nat × Tk)):Option HdT :=
 let r:=resT ts
 let ns:=(r.2.takeWhile isN).map wd
 match locT (r.2.drop ns.length) with
 | none=>none
 | some ls=>match headT r.1 ns ls with
   | none=>none
   | some x=>if x.all.Nodup then some x else none
end Go.Im.Heads
namespace Go.Im
def sv (ls:List ByteArray):List Value:=ls.map Value.string
theorem sv_append (a b:List ByteArray):sv (a++b)=sv a++sv b:=by simp [sv]
theorem sv_get {ls:List ByteArray} {i:Nat} {x:ByteArray} (h:ls[i]? =some x):(sv ls)[i]? =some (.string x):=by simp [sv,h]
theorem app_text {low:Nat} {h w:Heap} (hlow:low≤h.size) (x:Ext h w) {n:Nat} {s:ByteArray} {v:Value} {l:List ByteArray} (H:Own h.size w 1 v n (sv l)) (hn:n≤1000000) :
  ∃ w',iapp low w 1 16 v 1 (some [.string s])=some (.slice (some ⟨w.size,0,none⟩) (n+1) big,w')∧Own h.size w' 1 (.slice (some ⟨w.size,0,none⟩) (n+1) big) (n+1) (sv (l++[s]))∧w'.size=w.size+1∧Ext h w':=by
 have:=own_app2 (low:=low) (bytes:=16) (k:=1) (new:=[.string s]) hlow x H (by omega) (by omega) (by rfl) (by omega) (by omega)
 rw [sv_append]
 exact this
end Go.Im
namespace Go.Proofs.YtachkofbmodnnaaGreatDoor.H2
open Go Go.Im Go.Im.Limbs Go.Im.Lexing Go.Im.Heads Go.Proofs Go.RowKit Hd N18 N19 N23 N26 R8 R9 T0
set_option maxRecDepth 100000
theorem names_run (xs:List XT) (h:Heap) {a:Option Addr} {c:Nat} (s:Sl h 9 a xs.length c (xcs xs)) (hA:∀ x ∈ xs,Arr5 x.2) (hl:xs.length≤1000) :
  Runs K 77 #[.slice a xs.length c] h fun r w=>Own h.size w 1 r (((xs.map (·.1)).takeWhile isN).map wd).length (sv (((xs.map (·.1)).takeWhile isN).map wd)):=by
 refine Runs.of Kok (Does.intro rfl (by decide +kernel) Tryz.func77 rfl ?_)
 obtain ⟨ts,hts⟩:∃ ts,ts=xs.map (·.1):=⟨_,rfl⟩
 have hlen:ts.length=xs.length:=by rw [hts,List.length_map]
 rw [← hts]
 simp +decide only [go_sem,WR,WS]
 refine W_loop (α:=Nat × Value) (fun k e w=>k.1≤xs.length∧e.size=22∧Ext h w∧e.get 3=k.2∧Own h.size w 1 k.2 k.1 (sv ((ts.take k.1).map wd))∧e.get 6= .slice a xs.length c∧e.get 7= .int .i64 ((xs.length:Nat):Int)∧e.get 8= .int .i64 (k.1:Int)∧ts.takeWhile isN=ts.take k.1++(ts.drop k.1).takeWhile isN) (fun k=>xs.length - k.1) (0,.slice none 0 0) ?_ ?_
 ·exact ⟨Nat.zero_le _,by simp +decide only [go_sem],Ext.refl h,by simp +decide only [go_sem],Own.nil _ _ _,by simp +decide only [go_sem],by simp +decide only [go_sem],by simp +decide only [go_sem];rfl,by simp⟩
 ·rintro ⟨k,v⟩ e w ⟨hk,hsz,hxw,e3,own,e6,e7,e8,htw⟩ next
  simp only at hk e3 own e8 htw
  by_cases hc:(k:Int) < ((xs.length:Nat):Int)
  ·obtain ⟨X,hX⟩:∃ X,xs[k]? =some X:=⟨_,List.getElem?_eq_getElem (by omega)⟩
   have hXm:ts[k]? =some X.1:=by rw [hts,List.getElem?_map,hX];rfl
   have hXA:=hA X (List.mem_of_getElem? hX)
   obtain ⟨b,o,cs,rfl,p2,p3,p4,_,p5,p6,p7,p8⟩:=Sl.tok (s.ext hxw) hA rfl hX
   obtain ⟨ta,tn,tc,tb,ta2,tn2,tc2,ta3,tn3,tc3,tm,hrest⟩:=hXA
   have c0:(0:Int)≤(k:Int):=by omega
   obtain ⟨w1,e1,x1,hs1,z1⟩:=lay1 w (.cells [.int .i64 0,.int .i64 0,.string ByteArray.empty,.int .i32 0,.slice none 0 0,.bool false,.slice none 0 0,.slice none 0 0,.bool false] 9)
   have j1:h.size≤w.size:=hxw.1
   obtain ⟨w2,e2,x2,hs2,z2,k2⟩:=put1 x1 (Nat.le_refl _) (.cells (tc4 X.1++X.2) 9)
   have hcl:tc4 X.1++X.2=[.int .i64 (X.1.2.kind:Int),.int .i64 (X.1.1:Int),.string (runesBytes X.1.2.word),.int .i32 X.1.2.sign,.slice ta tn tc,.bool tb,.slice ta2 tn2 tc2,.slice ta3 tn3 tc3,.bool tm]:=by rw [hrest];rfl
   rw [hcl] at p7 e2 z2
   have hd:ts.drop k=X.1::ts.drop (k+1):=by
    obtain ⟨h1,h2⟩:=List.getElem?_eq_some_iff.1 hXm
    rw [← h2]
    exact List.drop_eq_getElem_cons h1
   rw [hd] at htw
   by_cases hk2:X.1.2.kind=2
   ·have hk2':((X.1.2.kind:Nat):Int)=2:=by omega
    rw [hk2'] at p7 e2 z2
    obtain ⟨w3,e3',x3,hs3,z3⟩:=lay1 w2 (.cells [.string (runesBytes X.1.2.word)] 1)
    obtain ⟨w4,e4',own4,hs4,x4⟩:=app_text (low:=h.size) (s:=runesBytes X.1.2.word) (Nat.le_refl _) (hxw.trans (x2.trans x3)) ((own.ext x2).ext x3) (by omega)
    have i1:IntKind.i64.wrap ((k:Int)+1)=((k+1:Nat):Int):=by rw [wrap_i64 (by omega) (by omega)];omega
    simp +decide only [go_sem,WR,WS,hsz,e3,e6,e7,e8,hc,c0,Int.toNat_natCast,p3,p8,p7,e1,z1,j1,e2,z2,e3',z3,e4',i1]
    have hwd:(ts.take (k+1)).map wd=(ts.take k).map wd++[runesBytes X.1.2.word]:=by
     rw [List.take_add_one,hXm]
     simp [wd]
    refine next (k+1,.slice (some ⟨w3.size,0,none⟩) (k+1) big) _ _ ⟨by simp only;omega,by simp +decide only [go_sem,hsz],x4,by simp +decide only [go_sem,hsz],?_,by simp +decide only [go_sem,hsz,e6],by simp +decide only [go_sem,hsz,e7],by simp +decide only [go_sem,hsz],?_⟩ (by simp only;omega)
    ·simp only [hwd]
     exact own4
    ·rw [htw,List.takeWhile_cons_of_pos (by simp [isN,hk2]),List.take_add_one,hXm]
     simp
   ·have hk2':¬ ((X.1.2.kind:Nat):Int)=2:=by omega
    rw [List.takeWhile_cons_of_neg (by simp [isN,hk2]),List.append_nil] at htw
    simp +decide only [go_sem,WR,WS,hsz,e3,e6,e7,e8,hc,c0,Int.toNat_natCast,p3,p8,p7,e1,z1,j1,e2,z2,hk2']
    rw [htw]
    have hkl:((ts.take k).map wd).length=k:=by simp;omega
    rw [hkl]
    exact own.ext x2
  ·have hke:k=xs.length:=by omega
   subst hke
   simp +decide only [go_sem,WR,WS,hsz,e3,e6,e7,e8,hc]
   rw [List.drop_of_length_le (by omega),List.takeWhile_nil,List.append_nil] at htw
   rw [htw]
   have hkl:((ts.take xs.length).map wd).length=xs.length:=by simp;omega
   rw [hkl]
   exact own
def hl (x:HdT) (v:Value):List Value:=[.string x.nm,.string x.re,.string x.le,.string x.ri,v]
theorem take_step (P:List ByteArray) (i:Nat) (s:ByteArray) (h:P[i]? =some s):(P.take (i+1)).filter (fun s=> !decide (s=E))=(P.take i).filter (fun s=> !decide (s=E))++(if s=E then [] else [s]):=by
 rw [List.take_add_one,h,List.filter_append]
 by_cases hs:s=E<;>simp [hs]
theorem hnames_run (x:HdT) (h:Heap) {a:Option Addr} {c:Nat} (s:Sl h 1 a x.ls.length c (sv x.ls)) (hl':x.ls.length≤1000) :
  Runs K 34 #[.agg (hl x (.slice a x.ls.length c)).toArray] h fun r w=>Own h.size w 1 r x.names.length (sv x.names):=by
 refine Runs.of Kok (Does.intro rfl (by decide +kernel) Tryz.func34 rfl ?_)
 obtain ⟨w0,e0,x0,hs0,z0⟩:=lay1 h (.cells [.string x.nm,.string x.re,.string x.le,.string x.ri,.slice a x.ls.length c] 5)
 obtain ⟨w1,e1,x1,hs1,z1⟩:=lay1 w0 (.cells [.string x.re,.string x.le,.string x.ri] 1)
 simp +decide only [go_sem,WR,WS,hl,e0,z0,e1]
 obtain ⟨P,hP⟩:∃ P,P=[x.re,x.le,x.ri]:=⟨_,rfl⟩
 have l1:h.size≤w1.size:=(x0.trans x1).1
 refine W_loop (α:=Nat × Value) (fun k e w=>k.1≤3∧e.size=29∧Ext w1 w∧e.get 3=k.2∧Own w1.size w 1 k.2 ((P.take k.1).filter (fun s=> !decide (s=E))).length (sv ((P.take k.1).filter (fun s=> !decide (s=E))))∧e.get 1= .pointer (some ⟨h.size,0,none⟩)∧e.get 12= .slice (some ⟨w0.size,0,none⟩) 3 3∧e.get 13= .int .i64 3∧e.get 14= .int .i64 (k.1:Int)) (fun k=>3 - k.1) (0,.slice none 0 0) ?_ ?_
 ·exact ⟨Nat.zero_le _,by simp +decide only [go_sem],Ext.refl _,by simp +decide only [go_sem],Own.nil _ _ _,by simp +decide only [go_sem],by simp +decide only [go_sem],by simp +decide only [go_sem];rfl,by simp +decide only [go_sem];rfl⟩
 ·rintro ⟨k,v⟩ e w ⟨hk,hsz,hxw,e3,own,g1,g12,g13,g14⟩ next
  simp only at hk e3 own g14
  have y0:w.get h.size=_:=(hxw.2 _ (by omega)).trans ((x1.2 _ (by omega)).trans z0)
  have y1:w.get w0.size=_:=(hxw.2 _ (by omega)).trans z1
  have hfl:((P.take k).filter (fun s=> !decide (s=E))).length≤3:=Nat.le_trans (List.length_filter_le _ _) (by simp;omega)
  by_cases hc:(k:Int) < 3
  ·obtain ⟨t,ht⟩:∃ t,P[k]? =some t:=⟨_,List.getElem?_eq_getElem (by rw [hP];simp;omega)⟩
   have hts:=take_step P k t ht
   have c0:(0:Int)≤(k:Int):=by omega
   have hc':(k:Int) < ((3:Nat):Int):=by omega
   have ht':([.string x.re,.string x.le,.string x.ri]:List Value)[k]? =some (.string t):=by
    have:=sv_get ht
    rw [hP] at this
    exact this
   have i1:IntKind.i64.wrap ((k:Int)+1)=((k+1:Nat):Int):=by rw [wrap_i64 (by omega) (by omega)];omega
   by_cases he:t=E
   ·rw [if_pos he,List.append_nil] at hts
    have he':t=⟨#[]⟩:=he
    simp +decide only [go_sem,WR,WS,hsz,e3,g12,g13,g14,hc,hc',c0,Int.toNat_natCast,y1,ht',he',i1,Nat.zero_add,Nat.mul_one]
    refine next (k+1,v) _ _ ⟨by simp only;omega,by simp +decide only [go_sem,hsz],hxw,by simp +decide only [go_sem,hsz,e3],?_,by simp +decide only [go_sem,hsz,g1],by simp +decide only [go_sem,hsz,g12],by simp +decide only [go_sem,hsz,g13],by simp +decide only [go_sem,hsz]⟩ (by simp only;omega)
    simp only [hts]
    exact own
   ·rw [if_neg he] at hts
    have he':¬ t=⟨#[]⟩:=he
    obtain ⟨w3,e3',x3,hs3,z3⟩:=lay1 w (.cells [.string t] 1)
    obtain ⟨w4,e4',own4,hs4,x4⟩:=app_text (low:=h.size) (s:=t) l1 (hxw.trans x3) (own.ext x3) (by omega)
    simp +decide only [go_sem,WR,WS,hsz,e3,g12,g13,g14,hc,hc',c0,Int.toNat_natCast,y1,ht',he',e3',z3,e4',i1,Nat.zero_add,Nat.mul_one]
    refine next (k+1,.slice (some ⟨w3.size,0,none⟩) (((P.take k).filter (fun s=> !decide (s=E))).length+1) big) _ _ ⟨by simp only;omega,by simp +decide only [go_sem,hsz],x4,by simp +decide only [go_sem,hsz],?_,by simp +decide only [go_sem,hsz,g1],by simp +decide only [go_sem,hsz,g12],by simp +decide only [go_sem,hsz,g13],by simp +decide only [go_sem,hsz]⟩ (by simp only;omega)
    simp only [hts,List.length_append,List.length_singleton]
    exact own4
  ·have hk3:k=3:=by omega
   subst hk3
   have hn:x.names=((P.take 3).filter (fun s=> !decide (s=E)))++x.ls:=by rw [hP];rfl
   obtain ⟨a2,c2,w5,e5',own5,x5,hc2⟩:=own_any (low:=h.size) (bytes:=16) l1 hxw own (k:=x.ls.length) (new:=sv x.ls) (by omega) (by simp [sv]) (by omega) (by omega)
   have isl:=((s.ext (x0.trans x1)).ext hxw).isl
   simp +decide only [go_sem,WR,WS,hsz,e3,g1,g13,g14,hc,y0,isl,e5']
   rw [hn,List.length_append,sv_append]
   exact own5.keep l1 fun b hb _=>⟨rfl,hb⟩
theorem rnames_run (x:HdT) (h:Heap) {a:Option Addr} {c:Nat} (s:Sl h 1 a x.ls.length c (sv x.ls)) (hl':x.ls.length≤1000) :
  Runs K 40 #[.agg (hl x (.slice a x.ls.length c)).toArray] h fun r w=>Own h.size w 1 r x.names.length (sv x.names):=by
 refine Runs.of Kok (Does.intro rfl (by decide +kernel) Tryz.func40 rfl ?_)
 obtain ⟨w0,e0,x0,hs0,z0⟩:=lay1 h (.cells [.string x.nm,.string x.re,.string x.le,.string x.ri,.slice a x.ls.length c] 5)
 apply W_join (α:=Value) (fun v e w=>e.size=32∧Ext w0 w∧e.get 1= .pointer (some ⟨h.size,0,none⟩)∧e.get 3=v∧Own w0.size w 1 v ([]:List ByteArray).length (sv []))
 ·intro cont
  simp +decide only [go_sem,WS,hl,e0]
  (rw [WR];simp +decide only [go_sem,WS,e0])
  (rw [WR];simp +decide only [go_sem,WS])
  exact cont (.slice none 0 0) _ _ ⟨by simp +decide only [go_sem],Ext.refl _,by simp +decide only [go_sem],by simp +decide only [go_sem],Own.nil _ _ _⟩
 rintro v e w ⟨hsz,hxw,g1,e3,own⟩
 apply W_join (α:=Value) (fun v e w=>e.size=32∧Ext w0 w∧e.get 1= .pointer (some ⟨h.size,0,none⟩)∧e.get 3=v∧Own w0.size w 1 v (([]:List ByteArray)++(if x.re=E then [] else [x.re])).length (sv (([]:List ByteArray)++(if x.re=E then [] else [x.re]))))
 ·intro cont
  have y0:w.get h.size=_:=(hxw.2 _ (by omega)).trans z0
  by_cases he:x.re=E
  ·have he':x.re=⟨#[]⟩:=he
   (rw [WR];simp +decide only [go_sem,WS,hsz,g1,e3,y0,he'])
   exact cont v _ _ ⟨by simp +decide only [go_sem,hsz],hxw,by simp +decide only [go_sem,hsz,g1],by simp +decide only [go_sem,hsz,e3],by simp only [if_pos he,List.append_nil];exact own⟩
  ·have he':¬ x.re=⟨#[]⟩:=he
   obtain ⟨w3,e3',x3,hs3,z3⟩:=lay1 w (.cells [.string x.re] 1)
   have hlen:(([]:List ByteArray)).length≤3:=by simp only [List.length_append,List.length_nil];(repeat' split)<;>simp
   obtain ⟨w4,e4',own4,hs4,x4⟩:=app_text (low:=h.size) (s:=x.re) x0.1 (hxw.trans x3) (own.ext x3) (by omega)
   (rw [WR];simp +decide only [go_sem,WS,hsz,g1,e3,y0,he'])
   (rw [WR];simp +decide only [go_sem,WS,hsz,g1,e3,y0,he',e3',z3,e4'])
   exact cont _ _ _ ⟨by simp +decide only [go_sem,hsz],x4,by simp +decide only [go_sem,hsz,g1],by simp +decide only [go_sem,hsz];rfl,by rw [if_neg he,@List.length_append _ (([]:List ByteArray)) _,List.length_singleton];exact own4⟩
 rintro v e w ⟨hsz,hxw,g1,e3,own⟩
 apply W_join (α:=Value) (fun v e w=>e.size=32∧Ext w0 w∧e.get 1= .pointer (some ⟨h.size,0,none⟩)∧e.get 3=v∧Own w0.size w 1 v (([]:List ByteArray)++(if x.re=E then [] else [x.re])++(if x.le=E then [] else [x.le])).length (sv (([]:List ByteArray)++(if x.re=E then [] else [x.re])++(if x.le=E then [] else [x.le]))))
 ·intro cont
  have y0:w.get h.size=_:=(hxw.2 _ (by omega)).trans z0
  by_cases he:x.le=E
  ·have he':x.le=⟨#[]⟩:=he
   (rw [WR];simp +decide only [go_sem,WS,hsz,g1,e3,y0,he'])
   exact cont v _ _ ⟨by simp +decide only [go_sem,hsz],hxw,by simp +decide only [go_sem,hsz,g1],by simp +decide only [go_sem,hsz,e3],by simp only [if_pos he,List.append_nil];exact own⟩
  ·have he':¬ x.le=⟨#[]⟩:=he
   obtain ⟨w3,e3',x3,hs3,z3⟩:=lay1 w (.cells [.string x.le] 1)
   have hlen:(([]:List ByteArray)++(if x.re=E then [] else [x.re])).length≤3:=by simp only [List.length_append,List.length_nil];(repeat' split)<;>simp
   obtain ⟨w4,e4',own4,hs4,x4⟩:=app_text (low:=h.size) (s:=x.le) x0.1 (hxw.trans x3) (own.ext x3) (by omega)
   (rw [WR];simp +decide only [go_sem,WS,hsz,g1,e3,y0,he'])
   (rw [WR];simp +decide only [go_sem,WS,hsz,g1,e3,y0,he',e3',z3,e4'])
   exact cont _ _ _ ⟨by simp +decide only [go_sem,hsz],x4,by simp +decide only [go_sem,hsz,g1],by simp +decide only [go_sem,hsz];rfl,by rw [if_neg he,@List.length_append _ (([]:List ByteArray)++(if x.re=E then [] else [x.re])) _,List.length_singleton];exact own4⟩
 rintro v e w ⟨hsz,hxw,g1,e3,own⟩
 apply W_join (α:=Value) (fun v e w=>e.size=32∧Ext w0 w∧e.get 1= .pointer (some ⟨h.size,0,none⟩)∧e.get 3=v∧Own w0.size w 1 v (([]:List ByteArray)++(if x.re=E then [] else [x.re])++(if x.le=E then [] else [x.le])++(if x.ri=E then [] else [x.ri])).length (sv (([]:List ByteArray)++(if x.re=E then [] else [x.re])++(if x.le=E then [] else [x.le])++(if x.ri=E then [] else [x.ri]))))
 ·intro cont
  have y0:w.get h.size=_:=(hxw.2 _ (by omega)).trans z0
  by_cases he:x.ri=E
  ·have he':x.ri=⟨#[]⟩:=he
   (rw [WR];simp +decide only [go_sem,WS,hsz,g1,e3,y0,he'])
   exact cont v _ _ ⟨by simp +decide only [go_sem,hsz],hxw,by simp +decide only [go_sem,hsz,g1],by simp +decide only [go_sem,hsz,e3],by simp only [if_pos he,List.append_nil];exact own⟩
  ·have he':¬ x.ri=⟨#[]⟩:=he
   obtain ⟨w3,e3',x3,hs3,z3⟩:=lay1 w (.cells [.string x.ri] 1)
   have hlen:(([]:List ByteArray)++(if x.re=E then [] else [x.re])++(if x.le=E then [] else [x.le])).length≤3:=by simp only [List.length_append,List.length_nil];(repeat' split)<;>simp
   obtain ⟨w4,e4',own4,hs4,x4⟩:=app_text (low:=h.size) (s:=x.ri) x0.1 (hxw.trans x3) (own.ext x3) (by omega)
   (rw [WR];simp +decide only [go_sem,WS,hsz,g1,e3,y0,he'])
   (rw [WR];simp +decide only [go_sem,WS,hsz,g1,e3,y0,he',e3',z3,e4'])
   exact cont _ _ _ ⟨by simp +decide only [go_sem,hsz],x4,by simp +decide only [go_sem,hsz,g1],by simp +decide only [go_sem,hsz];rfl,by rw [if_neg he,@List.length_append _ (([]:List ByteArray)++(if x.re=E then [] else [x.re])++(if x.le=E then [] else [x.le])) _,List.length_singleton];exact own4⟩
 rintro v e w ⟨hsz,hxw,g1,e3,own⟩
 have y0:w.get h.size=_:=(hxw.2 _ (by omega)).trans z0
 have hn:x.names=(([]:List ByteArray)++(if x.re=E then [] else [x.re])++(if x.le=E then [] else [x.le])++(if x.ri=E then [] else [x.ri]))++x.ls:=by
  simp only [HdT.names]
  by_cases h1:x.re=E<;>by_cases h2:x.le=E<;>by_cases h3:x.ri=E<;>simp [h1,h2,h3]
 have hlen:(([]:List ByteArray)++(if x.re=E then [] else [x.re])++(if x.le=E then [] else [x.le])++(if x.ri=E then [] else [x.ri])).length≤3:=by simp only [List.length_append,List.length_nil];(repeat' split)<;>simp
 obtain ⟨a2,c2,w5,e5',own5,x5,hc2⟩:=own_any (low:=h.size) (bytes:=16) x0.1 hxw own (k:=x.ls.length) (new:=sv x.ls) (by omega) (by simp [sv]) (by omega) (by omega)
 have isl:=((s.ext x0).ext hxw).isl
 simp +decide only [go_sem,WR,WS,hsz,e3,g1,y0,isl,e5']
 rw [hn,@List.length_append _ (([]:List ByteArray)++(if x.re=E then [] else [x.re])++(if x.le=E then [] else [x.le])++(if x.ri=E then [] else [x.ri])) _,sv_append]
 exact own5.keep x0.1 fun b hb _=>⟨rfl,hb⟩
end Go.Proofs.YtachkofbmodnnaaGreatDoor.H2
namespace Go.Proofs.YtachkofbmodnnaaGreatDoor.H3
open Go Go.Im Go.Im.Limbs Go.Im.Lexing Go.Im.Heads Go.Proofs Go.RowKit Hd N18 N19 N23 N26 R8 R9 T0 H2
set_option maxRecDepth 100000
theorem text_at {h:Heap} {a:Option Addr} {c:Nat} {ls:List ByteArray} (s:Sl h 1 a ls.length c (sv ls)) {i:Nat} (hi:i < ls.length):∃ b o cs,a=some ⟨b,o,none⟩∧b < h.size∧(h.get b).read= .cells cs 1∧cs[o+i]? =some (.string ls[i]) :=
 s.one (sv_get (List.getElem?_eq_getElem hi))
theorem apart_run (ls:List ByteArray) (h:Heap) {a:Option Addr} {c:Nat} (s:Sl h 1 a ls.length c (sv ls)) (hl':ls.length≤1000) :
  Runs K 85 #[.slice a ls.length c] h fun r w=>r= .bool (decide ls.Nodup)∧w=h:=by
 refine Runs.of Kok (Does.intro rfl (by decide +kernel) Tryz.func85 rfl ?_)
 simp +decide only [go_sem,WR,WS]
 refine W_loop (α:=Nat) (fun i e w=>i≤ls.length∧e.size=25∧w=h∧e.get 0= .slice a ls.length c∧e.get 3= .int .i64 (i:Int)∧∀ p q (hp:p < ls.length) (hq:q < ls.length),p < q→q < i→ls[p]≠ls[q]) (fun i=>ls.length - i) 0 ?_ ?_
 ·exact ⟨Nat.zero_le _,by simp +decide only [go_sem],rfl,by simp +decide only [go_sem],by simp +decide only [go_sem];rfl,fun p q _ _ _ h=>absurd h (by omega)⟩
 ·rintro i e w ⟨hi,hsz,rfl,e0,e3,hne⟩ next
  by_cases hc:(i:Int) < ((ls.length:Nat):Int)
  ·have hil:i < ls.length:=by omega
   simp +decide only [go_sem,WR,WS,hsz,e0,e3,hc]
   refine W_loop (α:=Nat) (fun j e w'=>j≤i∧e.size=25∧w'=w∧e.get 0= .slice a ls.length c∧e.get 3= .int .i64 (i:Int)∧e.get 4= .int .i64 (j:Int)∧∀ p (hp:p < ls.length),p < j→ls[p]≠ls[i]) (fun j=>i - j) 0 ?_ ?_
   ·exact ⟨Nat.zero_le _,by simp +decide only [go_sem,hsz],rfl,by simp +decide only [go_sem,hsz,e0],by simp +decide only [go_sem,hsz,e3],by simp +decide only [go_sem,hsz];rfl,fun p _ h=>absurd h (by omega)⟩
   ·rintro j e w' ⟨hj,hsz,rfl,e0,e3,e4,hnj⟩ next2
    by_cases hcj:(j:Int) < (i:Int)
    ·have hjl:j < ls.length:=by omega
     obtain ⟨b,o,cs,rfl,p2,p3,p4⟩:=text_at s hil
     obtain ⟨b2,o2,cs2,hq,_,q3,q4⟩:=text_at s hjl
     cases hq
     rw [p3] at q3
     cases q3
     have c0:(0:Int)≤(i:Int):=by omega
     have d0:(0:Int)≤(j:Int):=by omega
     have d1:(j:Int) < ((ls.length:Nat):Int):=by omega
     have i1:IntKind.i64.wrap ((j:Int)+1)=((j+1:Nat):Int):=by rw [wrap_i64 (by omega) (by omega)];omega
     by_cases he:ls[i]=ls[j]
     ·simp +decide only [go_sem,WR,WS,hsz,e0,e3,e4,hcj,c0,hc,d0,d1,Int.toNat_natCast,p3,p4,q4,he,Nat.mul_one]
      have:¬ ls.Nodup:=fun hh=>by
       rw [List.Nodup,List.pairwise_iff_getElem] at hh
       exact hh j i hjl hil (by omega) he.symm
      simp [this]
     ·simp +decide only [go_sem,WR,WS,hsz,e0,e3,e4,hcj,c0,hc,d0,d1,Int.toNat_natCast,p3,p4,q4,he,Nat.mul_one,i1]
      refine next2 (j+1) _ _ ⟨by omega,by simp +decide only [go_sem,hsz],rfl,by simp +decide only [go_sem,hsz,e0],by simp +decide only [go_sem,hsz,e3],by simp +decide only [go_sem,hsz],fun p hp hpj=> ?_⟩ (by omega)
      by_cases hpe:p=j
      ·subst hpe
       exact fun e=>he e.symm
      ·exact hnj p hp (by omega)
    ·have hji:j=i:=by omega
     subst hji
     have i1:IntKind.i64.wrap ((j:Int)+1)=((j+1:Nat):Int):=by rw [wrap_i64 (by omega) (by omega)];omega
     simp +decide only [go_sem,WR,WS,hsz,e0,e3,e4,hcj,i1]
     refine next (j+1) _ _ ⟨by omega,by simp +decide only [go_sem,hsz],rfl,by simp +decide only [go_sem,hsz,e0],by simp +decide only [go_sem,hsz],fun p q hp hq hpq hqi=> ?_⟩ (by omega)
     by_cases hqe:q=j
     ·subst hqe
      exact hnj p hp hpq
     ·exact hne p q hp hq hpq (by omega)
  ·have hie:i=ls.length:=by omega
   simp +decide only [go_sem,WR,WS,hsz,e0,e3,hc]
   have:ls.Nodup:=by
    rw [List.Nodup,List.pairwise_iff_getElem]
    exact fun p q hp hq hpq=>hne p q hp hq hpq (by omega)
   simp [this]
theorem texts_run (ls:List ByteArray) (h:Heap) {a a2:Option Addr} {c c2:Nat} (s:Sl h 1 a ls.length c (sv ls)) (s2:Sl h 1 a2 ls.length c2 (sv ls)) (hl':ls.length≤1000) :
  Runs K 47 #[.slice a ls.length c,.slice a2 ls.length c2] h fun r w=>r= .bool true∧w=h:=by
 refine Runs.of Kok (Does.intro rfl (by decide +kernel) Tryz.func47 rfl ?_)
 simp +decide only [go_sem,WR,WS]
 refine W_loop (α:=Nat) (fun i e w=>i≤ls.length∧e.size=26∧w=h∧e.get 0= .slice a ls.length c∧e.get 1= .slice a2 ls.length c2∧e.get 5= .int .i64 (i:Int)) (fun i=>ls.length - i) 0 ?_ ?_
 ·exact ⟨Nat.zero_le _,by simp +decide only [go_sem],rfl,by simp +decide only [go_sem],by simp +decide only [go_sem],by simp +decide only [go_sem];rfl⟩
 ·rintro i e w ⟨hi,hsz,rfl,e0,e1,e5⟩ next
  by_cases hc:(i:Int) < ((ls.length:Nat):Int)
  ·obtain ⟨b,o,cs,rfl,p2,p3,p4⟩:=text_at s (i:=i) (by omega)
   obtain ⟨b2,o2,cs2,rfl,_,q3,q4⟩:=text_at s2 (i:=i) (by omega)
   have c0:(0:Int)≤(i:Int):=by omega
   have i1:IntKind.i64.wrap ((i:Int)+1)=((i+1:Nat):Int):=by rw [wrap_i64 (by omega) (by omega)];omega
   simp +decide only [go_sem,WR,WS,hsz,e0,e1,e5,c0,hc,Int.toNat_natCast,p3,p4,q3,q4,Nat.mul_one,i1]
   exact next (i+1) _ _ ⟨by omega,by simp +decide only [go_sem,hsz],rfl,by simp +decide only [go_sem,hsz,e0],by simp +decide only [go_sem,hsz,e1],by simp +decide only [go_sem,hsz]⟩ (by omega)
  ·simp +decide only [go_sem,WR,WS,hsz,e0,e1,e5,hc]
end Go.Proofs.YtachkofbmodnnaaGreatDoor.H3
namespace Go.Proofs.YtachkofbmodnnaaGreatDoor.H4
open Go Go.Im Go.Im.Limbs Go.Im.Lexing Go.Im.Heads Go.Proofs Go.RowKit Go.Sort Hd N18 N19 N23 N26 R8 R9 T0 H2 H3
set_option maxRecDepth 100000
theorem isE {s:ByteArray}:s=E↔s.data.toList=[]:=by
 constructor
 ·intro h
  rw [h]
  rfl
 ·intro h
  cases s with
  | mk d =>
    have:d= #[]:=by simpa using h
    rw [this]
    rfl
def txtL (x:HdT):List UInt8:=S3.txt x.nm.data.toList x.re.data.toList x.le.data.toList x.ri.data.toList (x.ls.map (·.data.toList))
def txtB (x:HdT):ByteArray:=⟨(txtL x).toArray⟩
def frontL (x:HdT):List UInt8:=(if x.re.data.toList=[] then [] else x.re.data.toList++[226,134,144])++((if x.le.data.toList=[] then [] else x.le.data.toList++[32])++x.nm.data.toList)
theorem rtext_run (x:HdT) (h:Heap) {a:Option Addr} {c:Nat} (s:Sl h 1 a x.ls.length c (sv x.ls)) (hl':x.ls.length≤1000) (hz:x.nm.size≤1000000∧x.re.size≤1000000∧x.le.size≤1000000∧x.ri.size≤1000000∧∀ y ∈ x.ls,y.size≤1000000) :
  Runs K 88 #[.agg (hl x (.slice a x.ls.length c)).toArray] h fun r w=>r= .string (txtB x):=by
 refine Runs.of Kok (Does.intro rfl (by decide +kernel) Tryz.func88 rfl ?_)
 obtain ⟨zn,zr,zl,zi,zs⟩:=hz
 have cat:∀ {s u:ByteArray},s.size≤4000000000→u.size≤4000000000→∀ t,ibinop Tryz.prog .add t (.string s) (.string u)=some (.string (s++u)):=fun h1 h2 t=>ibinop_cat (by omega)
 have s3:(⟨#[226,134,144]⟩:ByteArray).size=3:=rfl
 have s1:(⟨#[32]⟩:ByteArray).size=1:=rfl
 have s2:(⟨#[59]⟩:ByteArray).size=1:=rfl
 obtain ⟨w0,e0,x0,hs0,z0⟩:=lay1 h (.cells [.string x.nm,.string x.re,.string x.le,.string x.ri,.slice a x.ls.length c] 5)
 apply W_join (α:=ByteArray) (fun t e w=>e.size=64∧w=w0∧e.get 1= .pointer (some ⟨h.size,0,none⟩)∧e.get 3= .string t∧t.data.toList=frontL x)
 ·intro cont
  simp +decide only [go_sem,WS,hl,e0]
  (rw [WR];simp +decide only [go_sem,WS,e0])
  (rw [WR];simp +decide only [go_sem,WS,z0])
  by_cases h1:x.re=E
  ·have h1':x.re=⟨#[]⟩:=h1
   (rw [WR];simp +decide only [go_sem,WS,z0,h1'])
   (rw [WR];simp +decide only [go_sem,WS,z0,h1'])
   by_cases h2:x.le=E
   ·have h2':x.le=⟨#[]⟩:=h2
    (rw [WR];simp +decide only [go_sem,WS,z0,h2'])
    exact cont x.nm _ _ ⟨by simp +decide only [go_sem],rfl,by simp +decide only [go_sem],by simp +decide only [go_sem],by simp [frontL,isE.1 h1,isE.1 h2]⟩
   ·have h2':¬ x.le=⟨#[]⟩:=h2
    (rw [WR];simp +decide only [go_sem,WS,z0,h2'])
    have k1:=cat (s:=x.le) (u:=⟨#[32]⟩) (by omega) (by omega)
    have k2:=cat (s:=x.le++⟨#[32]⟩) (u:=x.nm) (by rw [ByteArray.size_append];omega) (by omega)
    (rw [WR];simp +decide only [go_sem,WS,z0,k1,k2])
    refine cont _ _ _ ⟨by simp +decide only [go_sem],rfl,by simp +decide only [go_sem],by simp +decide only [go_sem];rfl,?_⟩
    have:=fun e=>h2 (isE.2 e)
    unfold frontL
    rw [if_pos (isE.1 h1),if_neg this]
    simp [ByteArray.data_append]
  ·have h1':¬ x.re=⟨#[]⟩:=h1
   have k1:=fun e=>h1 (isE.2 e)
   by_cases h2:x.le=E
   ·have h2':x.le=⟨#[]⟩:=h2
    (rw [WR];simp +decide only [go_sem,WS,z0,h1',h2'])
    (rw [WR];simp +decide only [go_sem,WS,z0,h1'])
    have c1:=cat (s:=x.re) (u:=⟨#[226,134,144]⟩) (by omega) (by omega)
    have c2:=cat (s:=x.re++⟨#[226,134,144]⟩) (u:=x.nm) (by rw [ByteArray.size_append];omega) (by omega)
    (rw [WR];simp +decide only [go_sem,WS,z0,c1,c2])
    refine cont _ _ _ ⟨by simp +decide only [go_sem],rfl,by simp +decide only [go_sem],by simp +decide only [go_sem];rfl,?_⟩
    unfold frontL
    rw [if_neg k1,if_pos (isE.1 h2)]
    simp [ByteArray.data_append]
   ·have h2':¬ x.le=⟨#[]⟩:=h2
    have k2:=fun e=>h2 (isE.2 e)
    (rw [WR];simp +decide only [go_sem,WS,z0,h1',h2'])
    have c1:=cat (s:=x.re) (u:=⟨#[226,134,144]⟩) (by omega) (by omega)
    have c2:=cat (s:=x.re++⟨#[226,134,144]⟩) (u:=x.le) (by rw [ByteArray.size_append];omega) (by omega)
    have c3:=cat (s:=x.re++⟨#[226,134,144]⟩++x.le) (u:=⟨#[32]⟩) (by rw [ByteArray.size_append,ByteArray.size_append];omega) (by omega)
    have c4:=cat (s:=x.re++⟨#[226,134,144]⟩++x.le++⟨#[32]⟩) (u:=x.nm) (by rw [ByteArray.size_append,ByteArray.size_append,ByteArray.size_append];omega) (by omega)
    (rw [WR];simp +decide only [go_sem,WS,z0,c1,c2,c3,c4])
    refine cont _ _ _ ⟨by simp +decide only [go_sem],rfl,by simp +decide only [go_sem],by simp +decide only [go_sem];rfl,?_⟩
    unfold frontL
    rw [if_neg k1,if_neg k2]
    simp [ByteArray.data_append]
 rintro t e w ⟨hsz,hw,g1,g3,ht⟩
 subst hw
 have tsz:t.size≤3000004:=by
  have h1:t.size=t.data.toList.length:=by simp
  have h2:∀ s:ByteArray,s.data.toList.length=s.size:=fun s=>by simp
  rw [h1,ht,frontL]
  simp only [List.length_append]
  have e1:(if x.re.data.toList=[] then [] else x.re.data.toList++[226,134,144]).length≤x.re.size+3:=by split<;>simp
  have e2:(if x.le.data.toList=[] then [] else x.le.data.toList++[32]).length≤x.le.size+1:=by split<;>simp
  have e3:=h2 x.nm
  omega
 apply W_join (α:=ByteArray) (fun t e w'=>e.size=64∧w'=w∧e.get 1= .pointer (some ⟨h.size,0,none⟩)∧e.get 3= .string t∧t.data.toList=frontL x++(if x.ri.data.toList=[] then [] else 32::x.ri.data.toList))
 ·intro cont
  by_cases h1:x.ri=E
  ·have h1':x.ri=⟨#[]⟩:=h1
   (rw [WR];simp +decide only [go_sem,WS,hsz,g1,g3,z0,h1'])
   exact cont t _ _ ⟨by simp +decide only [go_sem,hsz],rfl,by simp +decide only [go_sem,hsz,g1],by simp +decide only [go_sem,hsz,g3],by simp [isE.1 h1,ht]⟩
  ·have h1':¬ x.ri=⟨#[]⟩:=h1
   have k1:=fun e=>h1 (isE.2 e)
   (rw [WR];simp +decide only [go_sem,WS,hsz,g1,g3,z0,h1'])
   have c1:=cat (s:=t) (u:=⟨#[32]⟩) (by omega) (by omega)
   have c2:=cat (s:=t++⟨#[32]⟩) (u:=x.ri) (by rw [ByteArray.size_append];omega) (by omega)
   (rw [WR];simp +decide only [go_sem,WS,hsz,g1,g3,z0,c1,c2])
   refine cont _ _ _ ⟨by simp +decide only [go_sem,hsz],rfl,by simp +decide only [go_sem,hsz,g1],by simp +decide only [go_sem,hsz];rfl,?_⟩
   rw [if_neg k1]
   simp [ht,ByteArray.data_append]
 rintro t2 e w' ⟨hsz,hw,g1,g3,ht2⟩
 have tsz2:t2.size≤4000005:=by
  have h1:∀ s:ByteArray,s.data.toList.length=s.size:=fun s=>by simp
  have h2:=h1 t2
  rw [ht2,← ht] at h2
  simp only [List.length_append] at h2
  have e1:(if x.ri.data.toList=[] then [] else 32::x.ri.data.toList).length≤x.ri.size+1:=by split<;>simp
  have e3:=h1 t
  omega
 subst hw
 (rw [WR];simp +decide only [go_sem,WS,hsz,g1,g3])
 refine W_loop (α:=Nat × ByteArray) (fun k e w=>k.1≤x.ls.length∧e.size=64∧w=w'∧e.get 1= .pointer (some ⟨h.size,0,none⟩)∧e.get 3= .string k.2∧e.get 4= .int .i64 (k.1:Int)∧k.2.size≤4000005+k.1*1000001∧k.2.data.toList++((x.ls.drop k.1).map (·.data.toList)).flatMap (fun y=>59::y)=txtL x) (fun k=>x.ls.length - k.1) (0,t2) ?_ ?_
 ·refine ⟨Nat.zero_le _,by simp +decide only [go_sem,hsz],rfl,by simp +decide only [go_sem,hsz,g1],by simp +decide only [go_sem,hsz,g3],by simp +decide only [go_sem,hsz];rfl,by simp only;omega,?_⟩
  rw [ht2]
  simp [frontL,txtL,S3.txt,List.append_assoc]
 ·rintro ⟨i,t3⟩ e w ⟨hi,hsz,hw,g1,g3,g4,tz,hval⟩ next
  subst hw
  simp only at hi g3 g4 tz hval
  by_cases hc:(i:Int) < ((x.ls.length:Nat):Int)
  ·have hil:i < x.ls.length:=by omega
   obtain ⟨b,o,cs,rfl,p2,p3,p4⟩:=text_at (s.ext x0) hil
   have c0:(0:Int)≤(i:Int):=by omega
   have i1:IntKind.i64.wrap ((i:Int)+1)=((i+1:Nat):Int):=by rw [wrap_i64 (by omega) (by omega)];omega
   have zl':=zs x.ls[i] (List.getElem_mem hil)
   have c1:=cat (s:=t3) (u:=⟨#[59]⟩) (by omega) (by omega)
   have c2:=cat (s:=t3++⟨#[59]⟩) (u:=x.ls[i]) (by rw [ByteArray.size_append];omega) (by omega)
   simp +decide only [go_sem,WR,WS,hsz,g1,g3,g4,z0,c1,c2,c0,hc,Int.toNat_natCast,p3,p4,Nat.mul_one,i1]
   refine next (i+1,t3++⟨#[59]⟩++x.ls[i]) _ _ ⟨by simp only;omega,by simp +decide only [go_sem,hsz],rfl,by simp +decide only [go_sem,hsz,g1],by simp +decide only [go_sem,hsz],by simp +decide only [go_sem,hsz],by simp only [ByteArray.size_append];omega,?_⟩ (by simp only;omega)
   rw [← hval,List.drop_eq_getElem_cons hil,List.map_cons,List.flatMap_cons]
   simp only [ByteArray.data_append,Array.toList_append,List.append_assoc,List.cons_append,List.nil_append]
  ·simp +decide only [go_sem,WR,WS,hsz,g1,g3,g4,z0,hc]
   rw [List.drop_of_length_le (by omega),List.map_nil,List.flatMap_nil,List.append_nil] at hval
   rw [txtB,← hval]
end Go.Proofs.YtachkofbmodnnaaGreatDoor.H4
namespace Go.Im
theorem app_zero {low:Nat} {h:Heap} {b size bytes k:Nat} {new:List Value} (hg:h.get b= .cells [] size) (hs:0 < size) (hk:0 < k) (hn:new.length=k*size) (hb:2*k*bytes≤140737488355328) (hc:k≤4611686018427387904) :
  iapp low h size bytes (.slice (some ⟨b,0,none⟩) 0 0) k (some new)=some (.slice (some ⟨h.size,0,none⟩) k big,h.push (.cells new size)):=by
 simp only [iapp,Nat.zero_add]
 rw [if_neg (by omega),if_neg (by omega)]
 simp only [iput,hg,Nat.zero_mul,List.length_nil,Nat.zero_add]
 rw [if_neg (by simp),if_pos (by simp [big]),if_neg (by omega)]
 simp
end Go.Im
namespace Go.Proofs.YtachkofbmodnnaaGreatDoor.H5
open Go Go.Im Go.Im.Limbs Go.Im.Lexing Go.Im.Heads Go.Proofs Go.RowKit Go.Sort Hd N18 N19 N23 N26 R8 R9 T0 H2 H3 H4
set_option maxRecDepth 100000
theorem textX_ext:K.ext 55=some textRun:=rfl
theorem sortX_ext:K.ext 78=some sortRun:=rfl
theorem compX_ext:K.ext 79=some compRun:=rfl
theorem known_does {low:Nat} {f:FuncId} {args:Array Value} {h:Heap} {Q:Value→Heap→Prop} {g:Nat→Array Value→Heap→Option (Value × Heap)} (hg:K.ext f=some g) {v:Value} {w:Heap} (hr:g low args h=some (v,w)) (hq:Q v w):Does K low f args h Q :=
 ⟨1,v,w,by simp only [icall,hg];exact hr,hq⟩
theorem sv_enc (ls:List ByteArray):sv ls=(ls.map (·.data.toList)).map encStr:=by
 rw [List.map_map]
 rfl
def mkS (ss:List (List UInt8)):List ByteArray:=ss.map fun l=>⟨l.toArray⟩
theorem enc_sv (ss:List (List UInt8)):ss.map encStr=sv (mkS ss):=by
 rw [sv,mkS,List.map_map]
 rfl
theorem row_own {low:Nat} {h:Heap} {v:Value} {ls:List ByteArray} (H:Own low h 1 v ls.length (sv ls)) (h0:0 < ls.length) (hm:ls.length≤1000000) :
  ∃ b,v= .slice (some ⟨b,0,none⟩) ls.length big∧low≤b∧b < h.size∧h.get b= .cells (sv ls) 1∧rowArg low #[v] h=some ⟨b,0,ls.length,big,sv ls,ls.map (·.data.toList)⟩:=by
 rcases H with ⟨_,h1,_⟩ | ⟨b,rfl,h1,h2,h3,h4⟩
 ·omega
 ·refine ⟨b,rfl,h1,h2,h3,?_⟩
  have hd:((sv ls).drop 0).take ls.length=(ls.map (·.data.toList)).map encStr:=by
   rw [List.drop_zero,List.take_of_length_le (by rw [sv,List.length_map];omega),sv_enc]
  simp only [rowArg]
  rw [if_pos ⟨h1,h0,hm⟩]
  simp only [h3,hd,strsOf_map]
  rw [if_pos (by rw [sv,List.length_map];omega)]
theorem sort_does {low:Nat} {h:Heap} {v:Value} {ls:List ByteArray} (H:Own low h 1 v ls.length (sv ls)) (h0:0 < ls.length) (hm:ls.length≤1000000) :
  Does K low 78 #[v] h fun r w=>Own low w 1 v ls.length (sv (mkS (sorted (ls.map (·.data.toList)))))∧w.size=h.size∧∀ b,vblk v≠some b→w.get b=h.get b:=by
 obtain ⟨b,rfl,h1,h2,h3,h4⟩:=row_own H h0 hm
 have hr:sortRun low #[.slice (some ⟨b,0,none⟩) ls.length big] h=some (.tuple #[],h.set b ((⟨b,0,ls.length,big,sv ls,ls.map (·.data.toList)⟩:RowA).blk (sorted (ls.map (·.data.toList))))):=by simp only [sortRun,h4]
 refine known_does sortX_ext hr ?_
 have hlen:(sorted (ls.map (·.data.toList))).length=ls.length:=by simp [sorted]
 have hb:(⟨b,0,ls.length,big,sv ls,ls.map (·.data.toList)⟩:RowA).blk (sorted (ls.map (·.data.toList)))= .cells (sv (mkS (sorted (ls.map (·.data.toList))))) 1:=by
  simp only [RowA.blk,List.take_zero,List.nil_append,Nat.zero_add]
  rw [List.drop_of_length_le (by rw [sv,List.length_map];omega),List.append_nil,enc_sv]
 rw [hb]
 refine ⟨.inr ⟨b,rfl,h1,h2,by rw [Heap.get_set,if_pos rfl],by simp [sv,mkS,hlen]⟩,rfl,fun c hc=> ?_⟩
 rw [Heap.get_set,if_neg (fun e=>hc (by simp [vblk,e]))]
theorem comp_does {low:Nat} {h:Heap} {v:Value} {ls:List ByteArray} (H:Own low h 1 v ls.length (sv ls)) (h0:0 < ls.length) (hm:ls.length≤1000000) :
  Does K low 79 #[v] h fun r w=>(∃ a c,r= .slice a (Lib.compact (ls.map (·.data.toList))).length c)∧w.size=h.size∧∀ b,vblk v≠some b→w.get b=h.get b:=by
 obtain ⟨b,rfl,h1,h2,h3,h4⟩:=row_own H h0 hm
 have hle:=compact_le (ls.map (·.data.toList))
 have hr:compRun low #[.slice (some ⟨b,0,none⟩) ls.length big] h=some (.slice (some ⟨b,0,none⟩) (Lib.compact (ls.map (·.data.toList))).length big,h.set b ((⟨b,0,ls.length,big,sv ls,ls.map (·.data.toList)⟩:RowA).blk (compacted (ls.map (·.data.toList))))):=by
  simp only [compRun,h4]
  rw [if_pos hle]
 refine known_does compX_ext hr ?_
 refine ⟨⟨_,_,rfl⟩,rfl,fun c hc=> ?_⟩
 rw [Heap.get_set,if_neg (fun e=>hc (by simp [vblk,e]))]
theorem clone_run {ls:List ByteArray} {h:Heap} {a:Option Addr} {c:Nat} (s:Sl h 1 a ls.length c (sv ls)) (h0:0 < ls.length) (hm:ls.length≤1000000) :
  Runs K 80 #[.slice a ls.length c] h fun r w=>Own h.size w 1 r ls.length (sv ls):=by
 refine Runs.of Kok (Does.intro rfl (by decide +kernel) Tryz.func80 rfl ?_)
 obtain ⟨w1,e1,x1,hs1,g1⟩:=lay1 h (.cells [] 1)
 obtain ⟨w2,e2,x2,hs2,g2⟩:=lay1 w1 (.cells (sv ls) 1)
 have e3:=app_zero (low:=h.size) (bytes:=16) (new:=sv ls) (k:=ls.length) g1 (by omega) h0 (by simp [sv]) (by omega) (by omega)
 rw [e2] at e3
 have hi:=(s.ext x1).isl
 obtain ⟨b,o,cs,rfl,_⟩:=text_at s h0
 simp +decide only [go_sem,WR,WS,e1,hi,e3]
 exact .inr ⟨w1.size,rfl,x1.1,by omega,g2,by simp [sv]⟩
theorem texts_of {h:Heap} {ls:List ByteArray} {a:Option Addr} {c:Nat} (s:Sl h 1 a ls.length c (sv ls)) (hm:ls.length≤1000000):textsOf h (.slice a ls.length c)=some ls:=by
 by_cases h0:ls.length=0
 ·have:ls=[]:=List.eq_nil_of_length_eq_zero h0
  subst this
  rfl
 ·obtain ⟨b,o,cs,rfl,h2,h3,h4,h5⟩:=s.at (i:=0) (by omega)
  rw [Nat.mul_one] at h4 h5
  obtain ⟨m,e⟩:=Nat.exists_eq_succ_of_ne_zero h0
  rw [e] at h4 h5 ⊢
  simp only [textsOf,Heap.look,h3]
  rw [if_pos ⟨h4,by omega⟩,← h5]
  exact bytesOf_map ls
theorem text_run (x:HdT) (h:Heap) {a:Option Addr} {c:Nat} (s:Sl h 1 a x.ls.length c (sv x.ls)) (hl':x.ls.length≤1000) (hz:x.nm.size≤1000000∧x.re.size≤1000000∧x.le.size≤1000000∧x.ri.size≤1000000∧∀ y ∈ x.ls,y.size≤1000000) :
  Runs K 55 #[.agg (hl x (.slice a x.ls.length c)).toArray] h fun r w=>r= .string (txtB x):=by
 obtain ⟨zn,zr,zl,zi,zs⟩:=hz
 have ht:=texts_of s (by omega)
 refine Runs.of Kok (known_does textX_ext (v:= .string (txtB x)) (w:=h) ?_ rfl)
 simp only [textRun,hl,ht]
 rw [if_pos (by simp [small,zn,zr,zl,zi];exact zs)]
 rfl
end Go.Proofs.YtachkofbmodnnaaGreatDoor.H5
