/- Proved here: parts of the way to BEditBack (BEditBack); no condition beyond those that each theorem names. -/
import Derived.Test.YtachkofbmodnnaaGreatG25
set_option linter.unusedSimpArgs false
set_option linter.unusedVariables false
namespace Go.Proofs.YtachkofbmodnnaaGreat.editBack
open Go Go.Im Go.ChangeShapes Go.WideShapes Go.ChangeAt Go.RowKit Go.Deep Go.Joins Line L29
theorem ZuC (ls:List ByteArray):(ls.map Value.string).all Im.atomic=true:=by simp [Im.atomic]
theorem calls (rows:List ByteArray) (rs:List Zc4) (W:World) {a0:Option Addr} {k0 c0:Nat} (A:Arg W a0 k0 c0 (rows.map Value.string)) (hk0:rows.length=k0) (hsz:∀ s ∈ rows,s.size≤maxLen) (hk0m:k0≤maxLen)
  (hok:∀ r ∈ rs,r.ok W) {a:Option Addr} {k c:Nat} (hk:rs.length=k) (hkm:k≤maxLen)
  (h:(a=none∧k=0∧c=0)∨(k=0∧c=0∧∃ ad,a=some ad)∨(0 < c∧k≤c∧∃ b o cc e fr,a=some ⟨b,o,none⟩∧W.heap[b]? =some (.cells cc e fr)∧o+c*1≤cc.size∧∀ (j:Nat) y,(rs.map Zc4.cell)[j]? =some y→cc[o+j]? =some y)) :
  Calls Tryz.prog 7 #[.slice a0 k0 c0,.slice a k c] W fun e W'=>e= .returned (.bool true)∧Below W.heap.size W W':=by
 obtain ⟨v1,b1,d1,Q1,m1,x1,r1,s1,hc1⟩:=(Zc5.nil W).line A (ZuC rows)
 subst hk0
 have hm:maxLen=9223372036854775807:=rfl
 rw [hm] at hk0m hkm hsz
 rcases h with ⟨rfl,rfl,rfl⟩ | ⟨rfl,rfl,ad,rfl⟩ | ⟨hc,hkc,b,o,cc,e,fr,rfl,hb,hsz',hcell⟩
 ·exact ZeV (K:=Hd.K) Hd.Kok Q1 (args:= #[.slice b1 rows.length d1,.slice none 0 0]) (RL.cons r1 (RL.cons .nilSlice (RL.nil _))) rfl (D20.Zes rows [] _ s1 hk0m hsz (Sl.nil _ _) (by intro i l h;simp at h) Yp)
 ·exact ZeV (K:=Hd.K) Hd.Kok Q1 (args:= #[.slice b1 rows.length d1,.slice (some ⟨0,0,none⟩) 0 0]) (RL.cons r1 (RL.cons (.void 0 0 ad) (RL.nil _))) rfl (D20.Zes rows [] _ s1 hk0m hsz (.inr (.inl ⟨0,0,rfl,rfl,rfl,rfl⟩)) (by intro i l h;simp at h) Yp)
 ·obtain ⟨vs,xs,L,m,x,hxl,ln,rel⟩:=Zii rs Q1 hok
  obtain ⟨vs',a',c',L',m',x',r',s'⟩:=L.block (size:=1) (xs:=xs) Ya hb hkc hc hsz' Ya (fun i x hi=>by
   obtain ⟨k1,y,k2,k3⟩:=rel i x hi
   exact ⟨k1,y,hcell i y k2,k3⟩)
  have hkl:(rs.map Zc4.l).length=k:=by simpa using hk
  rw [← hkl] at r' s' ⊢
  refine ZeV (K:=Hd.K) Hd.Kok L' (args:= #[.slice b1 rows.length d1,.slice a' (rs.map Zc4.l).length c']) (RL.cons ((r1.mono m).mono m') (RL.cons r' (RL.nil _))) rfl (D20.Zes rows (rs.map Zc4.l) _ (s1.ext (x.trans x')) hk0m hsz s' (fun i l hl=> ?_) Ya)
  rw [List.getElem?_map] at hl
  obtain ⟨r,hr,rfl⟩:=Option.map_eq_some_iff.1 hl
  obtain ⟨v,hv,t⟩:=ln i r hr
  exact ⟨v,hv,t.ext x'⟩
theorem Zp1 {H:Type} {enc:TypeId × Value→H} {W:World} {a:Option Addr} {k c:Nat} {d:DataW H} {p:List MemPlace} (h:DataW.Trod enc Tryz.prog W 0 (fun _=>true) true 39 (.slice a k c) d p) :
  ∃ ls:List ByteArray,Arg W a k c (ls.map Value.string)∧ls.length=k∧k≤maxLen∧∀ s ∈ ls,s.size≤maxLen:=by
 obtain ⟨fuel,hf⟩:=h
 rcases open_strings Tryz.underlying39 Tryz.underlying9 Yh hf with ⟨hcs,_⟩ | ⟨a',k',c',ss,hcs,_,hk,hm,hz,_,hcell,hwf⟩
 ·simp [Value.cells] at hcs
  obtain ⟨rfl,rfl,rfl⟩:=hcs
  exact ⟨[],⟨rfl,Nat.le_refl _,.inl ⟨rfl,rfl⟩⟩,rfl,by simp [maxLen],by simp⟩
 ·simp [Value.cells] at hcs
  obtain ⟨rfl,rfl,rfl⟩:=hcs
  simp only [if_true] at hz
  refine ⟨ss.take k,?_,by simp;omega,by omega,fun s hs=>hwf s (List.mem_of_mem_take hs)⟩
  have:=Arg.of_cells (W:=W) (a:=a') (k:=k) (c:=c) (vals:=ss.map Value.string) (by simp [hz]) hk (fun i hi=>by
   rw [hcell i Ya]
   simp [List.getD,List.getElem?_eq_getElem (show i < ss.length by omega)])
  rw [← List.map_take] at this
  exact this
set_option maxRecDepth 100000 in
theorem lifted (os:Os) (started:os.Started) (H:Type) (enc:TypeId × Value→H) :
  ReturnsInHanded {} Tryz.checked os 7 .any (Rows.editBackSpec.pre6 enc Tryz.prog Tryz.f7 Rows.editBackRow.domain false) (Rows.editBackSpec.post enc Tryz.prog Tryz.f7 false true false false):=by
 refine returnsInHanded_of_change_sized (C:=Tryz.checked) own started Yh Tryz.func7
  (ChangeSpec.witness6 (enc:=enc) (C:=Tryz.checked) false ⟨#[], #[.slice none 0 0,.slice none 0 0],[]⟩ 8 Yh Yh Yh Yh) ?_
 intro W base args ds gs before hval0 hW hcnd hsz0 _
 have hval:∀ (j:Nat) t v,Tryz.f7.params[j]? =some t→args[j]? =some v→Value.okWide Tryz.prog W .any base t v:=hval0
 have hW':=hW
 obtain ⟨p,q,hA0,hV,rfl,hfz,hnd⟩:=hW
 have hA:DataW.TrodAll enc Tryz.prog W 0 (fun _=>true) true Tryz.f7.params.toList args.toList ds p:=hA0
 rw [Tryz.params7] at hA hval
 obtain ⟨v0,v1,d0,d1,p0,p1,rfl,rfl,rfl,h0,h1⟩:=trodAll_two hA
 obtain ⟨rfl,rfl⟩:=trodVars_none hV
 clear hA0 hval0 hsz0
 simp only [List.append_nil] at hW'
 have harg0:∀ W',Below W.heap.size W W'→DataW.Trod enc Tryz.prog W' 0 (fun b=>decide (b < W.heap.size)) true 39 v0 d0 p0:=fun W' hb =>
  Below.trod laidOut Yh (of_decide_eq_true Yh) h0 hb (fun x hx=>by simpa using hW'.lt x (List.mem_append_left _ hx))
 have harg1:∀ W',Below W.heap.size W W'→DataW.Trod enc Tryz.prog W' 0 (fun b=>decide (b < W.heap.size)) true 40 v1 d1 p1:=fun W' hb =>
  Below.trod laidOut Yh (of_decide_eq_true Yh) h1 hb (fun x hx=>by simpa using hW'.lt x (List.mem_append_right _ hx))
 obtain ⟨a0,k0,c0,rfl⟩:=okWide_slice Tryz.underlying39 (hval 0 39 v0 rfl rfl)
 obtain ⟨a,k,c,rfl⟩:=okWide_slice Tryz.underlying40 (hval 1 40 v1 rfl rfl)
 obtain ⟨rows,A,hk0,hk0m,hsz⟩:=Zp1 h0
 obtain ⟨rs,hk,hkm,hok,hat⟩:=Zok h1
 refine (calls rows rs W A hk0 hsz hk0m hok hk hkm hat).mono fun e W' ⟨he,bel⟩=> ?_
 subst he
 exact ⟨_,rfl,_,_,_,[],_,[],hW',trodAll_mk1 (shut_bool Tryz.underlying4 _),trodAll_mk2 (harg0 W' bel) (harg1 W' bel),rfl,bel.frame _,fun h=>by cases h⟩
theorem over:Rows.editBackRow.holds Tryz.pinned (OpenSpec.ofChange Rows.editBackSpec) :=
 OpenClaim.holds_of_wide 7 Tryz.f7 rfl rfl rfl rfl rfl rfl rfl ⟨rfl,rfl,rfl,rfl,rfl⟩ rfl rfl rfl rfl rfl Yh Tryz.func7 Yh
  (of_decide_eq_true Yh) (by unfold Func.isWrapper;first | (rw [if_pos Ye];kernel_rfl) | (rw [if_neg Ye];exact ⟨rfl,rfl⟩))
  (fun os started H enc _=>lifted os started H enc)
theorem proved:Rows.EditBackSaid:=over
#print axioms proved
end Go.Proofs.YtachkofbmodnnaaGreat.editBack
namespace Go.Proofs.YtachkofbmodnnaaGreat
theorem editBack_holds:Rows.EditBackSaid:=editBack.proved
end Go.Proofs.YtachkofbmodnnaaGreat
