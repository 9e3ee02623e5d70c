/-
  Writing into a slice that grows;rows of plain data out of a slice;permuting what is owned.
-/
import Derived.Test.YtfccagphnfceiaaGreatDoorCOn4
import Derived.Test.YtfccagphnfceiaaGreatDoorCOn1
import Derived.Shelf.Strings.Builder1
import Derived.Shelf.Strconv.Itoa3
import Derived.Lib.AppendStr
import Derived.Lib.LaidTab
import Derived.LaidMore
import Derived.OpenShut
import Derived.Stop.Joined
import Derived.MapKept
import Derived.Lib.Bytealg
import Derived.Lib.Strings
import Derived.Lib.Walk
import Derived.Shelf.Small.Strs
import Derived.Shelf.Small.Wraps
import Derived.Shelf.Strings.BuilderF
import Derived.Shelf.Strings.BuilderK
import Derived.Shelf.Strconv.Atoi
import Derived.Shelf.Strconv.Itoa0
import Derived.Shelf.Strconv.Itoa1
import Derived.Shelf.LaysM
import Derived.Shelf.Strconv.Itoa2
import Derived.Shelf.Strconv.AtoiErrFast
import Derived.Shelf.Strconv.ParseIntEmpty
import Derived.Shelf.Strconv.AtoiFail
import Derived.Shelf.Strconv.Clone
import Derived.Shelf.Strconv.SyntaxError
import Derived.Shelf.LaysC
import Derived.Shelf.Strconv.ToError
import Derived.Shelf.Strconv.Lower
import Derived.Shelf.Strconv.ParseUint10
import Derived.Shelf.Strconv.ParseUint10Empty
import Derived.Shelf.Strconv.ParseUint10Any
import Derived.Shelf.Strconv.ParseInt10
import Derived.Shelf.Strconv.AtoiLong
import Derived.Shelf.Strconv.AtoiInnerAll
import Derived.Shelf.Strconv.RangeError
import Derived.Shelf.Strconv.ToErrorRange
import Derived.Shelf.Strconv.AtoiAll
import Derived.Shelf.Strconv.ParseUintEmpty
import Derived.Shelf.Strconv.ParseUint10b64
import Derived.Shelf.Strconv.ParseUint10b32
import Derived.Shelf.Strconv.ParseUint10b16
import Derived.Shelf.Strconv.ParseUint10b8
import Derived.Shelf.Strconv.ParseUint10At
import Derived.Shelf.Strings.Search1
import Derived.Shelf.Strings.Prefix
import Derived.Test.YtfccagphnfceiaaGreatDoorRows
import Derived.Lib.ItoaNum

set_option linter.unusedVariables false
set_option linter.unusedSimpArgs false
section
namespace Go.Vc
section
variable {P:Program} {W w w':World} {S S' F:List Own} {Φ Ψ:PW}
theorem Ctx.swap [Stable Φ] {a b:Own} (c:Ctx W w (a :: b :: S) Φ):Ctx W w (b :: a :: S) Φ:=c.perm (List.Perm.swap _ _ _)
theorem Ctx.bufBlk (c:Ctx W w S Φ) (k:Nat) {p:Option Addr} {n cap:Nat} {cs:List Value} {t:TypeId} {size:Nat} (hk:S[k]? = some (.buf p n cap cs t size)) (h0:0<cs.length) :
    ∃ b cur,p=some ⟨b,0,none⟩∧Blk w b cur t∧cur.take (n*size)=cs∧n≤cap∧cap≤maxLen∧cur.length=cap*size∧cs.length=n*size:=by
  obtain ⟨h1,h2⟩:=c.own _ (List.mem_of_getElem? hk)
  rcases h2 with ⟨e,rfl⟩|⟨g,cap',cur,e,_,hg,hnc,hcm,hcs,htake⟩
  · rw [Nat.zero_mul] at h1;omega
  · cases e
    exact ⟨g,cur.toList,rfl,by simpa [Blk] using hg,htake,hnc,hcm,by simpa using hcs,h1⟩
theorem Ctx.bufRow (c:Ctx W w S Φ) (k:Nat) {p:Option Addr} {n cap:Nat} {cs:List Value} {t:TypeId} {size:Nat} (hk:S[k]? = some (.buf p n cap cs t size)) {b o:Nat} (hp:p=some ⟨b,0,none⟩) {vs:List Value}
    (hv:∀ j,(hj:j<vs.length)→cs[o+j]? = some vs[j]):RowAt w b o vs:=by
  intro j hj
  have hlt:o+j<cs.length:=(List.getElem?_eq_some_iff.1 (hv j hj)).1
  obtain ⟨b',h1,_,h2⟩:=c.bufCell k hk (by omega)
  rw [hp] at h1
  cases h1
  exact (h2 _ _ (hv j hj)).1
theorem Ctx.bufCan (c:Ctx W w S Φ) (k:Nat) {p:Option Addr} {n cap:Nat} {cs:List Value} {t:TypeId} {size:Nat} (hk:S[k]? = some (.buf p n cap cs t size)) {b o m:Nat} (hp:p=some ⟨b,0,none⟩) (hm:o+m≤cs.length):CanWrite w b o m:=by
  intro j hj
  obtain ⟨b',h1,_,h2⟩:=c.bufCell k hk (by omega)
  rw [hp] at h1
  cases h1
  have:=h2 (o+j) cs[o+j] (List.getElem?_eq_getElem (by omega))
  exact ⟨by rw [this.1];rfl,this.2⟩
theorem setL_len:∀ (vs:List Value) (cs:List Value) (o:Nat),(setL cs o vs).length=cs.length
  | [],_,_=>rfl
  | v :: r,cs,o=>by unfold setL;rw [setL_len r];simp
theorem setL_take:∀ (vs:List Value) (cs:List Value) (o m:Nat),o+vs.length≤m→(setL cs o vs).take m=setL (cs.take m) o vs
  | [],_,_,_,_=>rfl
  | v :: r,cs,o,m,h=>by
    unfold setL
    simp only [List.length_cons] at h
    rw [setL_take r _ _ _ (by omega),List.take_set]
theorem setL_get:∀ (vs:List Value) (cs:List Value) (o i:Nat),(i<o∨o+vs.length≤i)→(setL cs o vs)[i]? = cs[i]?
  | [],_,_,_,_=>rfl
  | v :: r,cs,o,i,h=>by
    unfold setL
    simp only [List.length_cons] at h
    rw [setL_get r _ _ _ (by omega),List.getElem?_set_ne (by omega)]
theorem setL_in:∀ (vs:List Value) (cs:List Value) (o i:Nat),i<vs.length→o+vs.length≤cs.length→(setL cs o vs)[o+i]? = vs[i]?
  | [],_,_,_,h,_=>by simp at h
  | v :: r,cs,o,0,h,hl=>by
    unfold setL
    simp only [List.length_cons] at hl
    rw [setL_get r _ _ _ (by omega),Nat.add_zero,List.getElem?_set_self (by omega)]
    rfl
  | v :: r,cs,o,i+1,h,hl=>by
    unfold setL
    simp only [List.length_cons] at hl h
    rw [show o+(i+1)=o+1+i by omega,setL_in r _ _ _ (by omega) (by simp;omega)]
    rfl
theorem Ctx.bufPuts [Stable Φ] (c:Ctx W w S Φ) (k:Nat) {p:Option Addr} {n cap:Nat} {cs vs:List Value} {t:TypeId} {size:Nat} (hk:S[k]? = some (.buf p n cap cs t size)) {b o:Nat} (hp:p=some ⟨b,0,none⟩) (h0:0<cs.length) (ho:o+vs.length≤cs.length)
    (e:w'=w.setCells b o vs):Ctx W w' (S.set k (.buf p n cap (setL cs o vs) t size)) Φ:=by
  obtain ⟨b',cur,h1,hb,htake,hnc,hcm,hcl,hl⟩:=c.bufBlk k hk h0
  rw [hp] at h1
  cases h1
  subst e
  refine c.upd hk ((Chg.refl _ _).setCells (by subst hp;simp [Own.dom]) o vs) (fun x hx=>.inl (by subst hp;exact hx)) (by subst hp;simp [Own.dom]) ?_
  have hb':=Blk.sets vs o hb
  refine ⟨by rw [setL_len,hl],.inr ⟨b,cap,(setL cur o vs).toArray,by rw [hp],Nat.zero_le _,hb',hnc,hcm,by simp [setL_len,hcl],?_⟩⟩
  rw [←htake,setL_take _ _ _ _ (by omega)]
theorem Elems.setAt {α:Type} [Gv α] {M:List Nat} {cs d:List Value} {l:List α} {x:α} (h:Elems M w cs l) (k:Nat) (hk:k<l.length) (hx:Gv.rep M w d x):Elems M w (setL cs (k*(Gv.ty α).size) d) (l.set k x):=by
  have hd:=Gv.len hx
  refine ⟨by rw [setL_len,h.1];simp,fun j hj=>?_⟩
  have hj:j<l.length:=by simpa using hj
  have hle:(k+1)*(Gv.ty α).size≤cs.length:=by rw [h.1];exact Nat.mul_le_mul_right _ hk
  have hlj:(j+1)*(Gv.ty α).size≤cs.length:=by rw [h.1];exact Nat.mul_le_mul_right _ hj
  rw [Nat.add_mul,Nat.one_mul] at hle hlj
  by_cases hjk:k=j
  · subst hjk
    rw [List.getElem_set_self]
    have:((setL cs (k*(Gv.ty α).size) d).drop (k*(Gv.ty α).size)).take (Gv.ty α).size=d:=by
      apply List.ext_getElem?
      intro i
      by_cases hi:i<(Gv.ty α).size
      · rw [List.getElem?_take_of_lt hi,List.getElem?_drop,setL_in _ _ _ _ (by omega) (by omega)]
      · rw [List.getElem?_eq_none (by simp;omega),List.getElem?_eq_none (by omega)]
    rw [this]
    exact hx
  · rw [List.getElem_set_ne hjk]
    have:((setL cs (k*(Gv.ty α).size) d).drop (j*(Gv.ty α).size)).take (Gv.ty α).size=(cs.drop (j*(Gv.ty α).size)).take (Gv.ty α).size:=by
      apply List.ext_getElem?
      intro i
      by_cases hi:i<(Gv.ty α).size
      · rw [List.getElem?_take_of_lt hi,List.getElem?_drop,List.getElem?_take_of_lt hi,List.getElem?_drop]
        refine setL_get _ _ _ _ ?_
        rw [hd]
        rcases Nat.lt_or_gt_of_ne hjk with hlt|hlt
        · right
          have:=Nat.mul_le_mul_right (Gv.ty α).size (show k+1≤j from hlt)
          rw [Nat.add_mul,Nat.one_mul] at this
          omega
        · left
          have:=Nat.mul_le_mul_right (Gv.ty α).size (show j+1≤k from hlt)
          rw [Nat.add_mul,Nat.one_mul] at this
          omega
      · rw [List.getElem?_eq_none (by simp [setL_len];omega),List.getElem?_eq_none (by simp;omega)]
    rw [this]
    exact h.2 j hj
theorem Sl.cells {α:Type} [Gv α] {M:List Nat} {p:Option Addr} {l:List α} (h:Sl M w p l) (h1:∀ M w cs (x:α),Gv.rep M w cs x→(cs.all fun u=>oneC u)=true) (h0:0<l.length) :
    ∃ b o news,p=some ⟨b,o,none⟩∧news.length=l.length*(Gv.ty α).size∧(∀ j u,news[j]? = some u→w.cell? ⟨b,o+j,none⟩=some u)∧Elems M w news l∧(news.all fun u=>oneC u)=true:=by
  obtain ⟨b,o,_,hp,_⟩:=h 0 h0
  have key:∀ k,k≤l.length→∃ news:List Value,news.length=k*(Gv.ty α).size∧(∀ j u,news[j]? = some u→w.cell? ⟨b,o+j,none⟩=some u)∧Elems M w news (l.take k)∧(news.all fun u=>oneC u)=true:=by
    intro k
    induction k with
    | zero=>intro _;exact ⟨[],by simp,fun j u hj=>by simp at hj,by rw [List.take_zero];exact Elems.nil,rfl⟩
    | succ k ih =>
      intro hk
      obtain ⟨news,g1,g2,g3,g4⟩:=ih (by omega)
      obtain ⟨b',o',cs,e1,_,e3,e4⟩:=h k (by omega)
      rw [hp] at e1
      cases e1
      have hlen:=Gv.len e4
      refine ⟨news++cs,by rw [List.length_append,g1,hlen,Nat.add_mul,Nat.one_mul],fun j u hj=>?_,?_,by rw [List.all_append,g4,h1 _ _ _ _ e4];rfl⟩
      · by_cases hlt:j<news.length
        · rw [List.getElem?_append_left hlt] at hj
          exact g2 j u hj
        · rw [List.getElem?_append_right (by omega)] at hj
          have hl2:j - news.length<cs.length:=(List.getElem?_eq_some_iff.1 hj).1
          have:=e3 (j - news.length) hl2
          rw [show o+k*(Gv.ty α).size+(j - news.length)=o+j by omega] at this
          rw [this,←hj,List.getElem?_eq_getElem hl2]
      · rw [List.take_succ_eq_append_getElem (by omega)]
        exact g3.snoc e4
  obtain ⟨news,g1,g2,g3,g4⟩:=key l.length (Nat.le_refl _)
  rw [List.take_length] at g3
  exact ⟨b,o,news,hp,g1,g2,g3,g4⟩
theorem Ctx.appSl [Stable Φ] {α:Type} [Gv α] {q:Option Addr} {l:List α} {c2:Nat} {p:Option Addr} {n cap:Nat} {cs:List Value} {t:TypeId} {bytes:Nat} (c:Ctx W w (.buf p n cap cs t (Gv.ty α).size :: S) Φ)
    {ts ty:TypeId} {kb:Array Bool} (hb:appB P ts t (Gv.ty α).size bytes=true) (h1:∀ M w cs (x:α),Gv.rep M w cs x→(cs.all fun u=>oneC u)=true) (hsl:∀ M w,Φ M w→Sl M w q l) (h0:0<l.length) (hlen:n+l.length<100000000) (hbytes:bytes≤1000) :
    ∃ p' cap' w' news,Sem.run P (builtin Builtin.append #[ts,ts] ty kb #[.slice p n cap,.slice q l.length c2]) w=.ok (.value (.slice p' (n+l.length) cap')) w'∧(∃ g,p'=some ⟨g,0,none⟩) ∧
      Ctx W w' (.buf p' (n+l.length) cap' (cs++news) t (Gv.ty α).size :: S) (fun M w=>Φ M w∧Elems M w news l):=by
  obtain ⟨i,z,e1,e2,e3,e4,e5,e6⟩:=appB_out hb
  have hby:(n+l.length)*i.bytes≤100000000*1000:=Nat.mul_le_mul (by omega) (by omega)
  obtain ⟨b,o,news,hp,g1,g2,g3,g4⟩:=(hsl _ _ c.phi).cells h1 h0
  obtain ⟨p',cap',w',h2,c'⟩:=(c.add (Ψ:=fun M w=>Elems M w news l) g3).append 0 rfl (ty:=ty) e1 e2 e3 e4 e5 (a:=⟨b,o,none⟩) (m:=l.length) (c2:=c2) (news:=news) h0 g1 (fun j u hj=>by rw [addr_add];exact g2 j u hj)
    (fun u hu=>List.all_eq_true.1 g4 u hu) (by omega) (by omega)
  have hpos:0<(Gv.ty α).size:=Gv.pos
  have hl2:0<l.length*(Gv.ty α).size:=Nat.mul_pos h0 hpos
  refine ⟨p',cap',w',news,by rw [hp];exact run_app h2,?_,c'⟩
  obtain ⟨g,hg,_⟩:=c'.bufCell 0 rfl (by rw [List.length_append];omega)
  exact ⟨g,hg⟩
end
end Go.Vc
end

section
namespace Go.Vc
section
variable {P:Program} {W w w':World} {S S' F:List Own} {Φ Ψ:PW}
theorem Stable.less {Φ:PW} [Stable Φ] {D M:List Nat} {w:World} (h:Φ (D++M) w):Φ M w :=
  Stable.step (Φ:=Φ) ⟨Chg.refl _ _,fun b hb=>.inl (List.mem_append_right _ hb)⟩ h
structure GivesNew (Φ:PW) (P:Program) (f:FuncId) (args:Array Value) {α:Type} [Gv α] (l:List α) (t:TypeId):Prop where
  go:∀ (W w:World) (S:List Own),Ctx W w S Φ→Calls P f args w fun e w'=>∃ p cap cs,e=.returned (.slice p l.length cap)∧Ctx W w' (.buf p l.length cap cs t (Gv.ty α).size :: S) (fun M w=>Φ M w∧Elems M w cs l)
theorem GivesNew.use {f:FuncId} {args:Array Value} {α:Type} [Gv α] {l:List α} {t:TypeId} (h:GivesNew Φ P f args l t) (c:Ctx W w S Φ) {K:Ending→World→Prop}
    (hk:∀ p cap cs w',Ctx W w' (.buf p l.length cap cs t (Gv.ty α).size :: S) (fun M w=>Φ M w∧Elems M w cs l)→K (.returned (.slice p l.length cap)) w'):Calls P f args w K :=
  (h.go W w S c).mono fun e w' ⟨p,cap,cs,he,c'⟩=>by subst he;exact hk p cap cs w' c'
theorem gives_new [Stable Φ] {f:FuncId} {args:Array Value} {α:Type} [Gv α] {l:List α} {t:TypeId} {B:World→List Own→PW→(Value→World→Prop)→Prop}
    (run:∀ {W w:World} {R:List Own} {Φ:PW} [Stable Φ] {J:Value→World→Prop},Ctx W w R Φ→B W R Φ J→Calls P f args w fun e w'=>∃ v,e=.returned v∧J v w')
    (h:∀ (W:World) (R:List Own),B W R Φ fun u w'=>∃ p cap cs,u=.slice p l.length cap∧Ctx W w' (.buf p l.length cap cs t (Gv.ty α).size :: R) (fun M w=>Φ M w∧Elems M w cs l)):GivesNew Φ P f args l t :=
  ⟨fun W w S c=>calls_of (run c (h W S)) fun u w' ⟨p,cap,cs,h1,h2⟩=>⟨p,cap,cs,by rw [h1],h2⟩⟩
theorem GivesNew.there {f:FuncId} {args:Array Value} {α:Type} [Gv α] {l:List α} {t:TypeId} {p:Option Addr} {n:Nat} (hΦ:∀ M w,Φ M w→There p n) (h:There p n→GivesNew Φ P f args l t):GivesNew Φ P f args l t :=
  ⟨fun W w S c=>(h (hΦ _ _ c.phi)).go W w S c⟩
theorem Ctx.cloned [Stable Φ] {α:Type} [Gv α] {q:Option Addr} {l:List α} {c2:Nat} {k:Nat} {t:TypeId} {bytes:Nat} (c:Ctx W w (.blk k [] t :: S) Φ)
    {ts ty:TypeId} {kb:Array Bool} (hb:appB P ts t (Gv.ty α).size bytes=true) (h1:∀ M w cs (x:α),Gv.rep M w cs x→(cs.all fun u=>oneC u)=true) (hsl:∀ M w,Φ M w→Sl M w q l) (hlen:l.length<100000000) (hbytes:bytes≤1000) :
    ∃ p' cap' w' cs,Sem.run P (builtin Builtin.append #[ts,ts] ty kb #[.slice (some ⟨k,0,none⟩) 0 0,.slice q l.length c2]) w=.ok (.value (.slice p' l.length cap')) w' ∧
      Ctx W w' (.buf p' l.length cap' cs t (Gv.ty α).size :: S) (fun M w=>Φ M w∧Elems M w cs l):=by
  have c':Ctx W w (.buf (some ⟨k,0,none⟩) 0 0 [] t (Gv.ty α).size :: S) Φ:=c.toBuf 0 0 (Gv.ty α).size rfl (by simp) (by simp [maxLen])
  rcases Nat.eq_zero_or_pos l.length with h0|h0
  · obtain ⟨i,z,e1,e2,e3,e4,e5,e6⟩:=appB_out hb
    have hl:l=[]:=List.eq_nil_of_length_eq_zero h0
    subst hl
    exact ⟨_,_,w,[],run_app (c'.append0 0 rfl e1 e2 q c2),c'.add Elems.nil⟩
  · obtain ⟨p',cap',w',news,h2,_,c3⟩:=c'.appSl (ty:=ty) (kb:=kb) (c2:=c2) hb h1 hsl h0 (by omega) hbytes
    rw [Nat.zero_add] at h2 c3
    exact ⟨p',cap',w',news,h2,c3⟩
def RowIn (b o:Nat) (vs:List Value) (M:List Nat) (w:World):Prop:=b ∉ M∧RowAt w b o vs∧b<w.heap.size
instance instStableRowIn (b o:Nat) (vs:List Value):Stable (fun M w=>RowIn b o vs M w):=⟨fun hs h =>
  ⟨fun hm=>by rcases hs.sub b hm with h1|h1;exact h.1 h1;have:=h.2.2;omega,hs.chg.row h.2.1 h.1,Nat.lt_of_lt_of_le h.2.2 hs.chg.size⟩⟩
def ParkedL (W:World) (Q:List Own) (M:List Nat) (w:World):Prop:=(∀ o∈Q,o.at w)∧(dom Q).Nodup∧∀ b∈dom Q,b ∉ M∧W.heap.size≤b
instance instStableParkedL (W:World) (Q:List Own):Stable (fun M w=>ParkedL W Q M w):=⟨fun hs h=>by
  have hlt:∀ b∈dom Q,b<_:=fun b hb=>by
    obtain ⟨o,ho,hb⟩:=List.mem_flatMap.1 hb
    exact Own.at_lt (h.1 o ho) b hb
  exact ⟨fun o ho=>Own.at_keep (h.1 o ho) fun b hb=>hs.chg.block b (hlt b (mem_dom ho hb)) (h.2.2 b (mem_dom ho hb)).1,h.2.1,fun b hb=>⟨fun hm=>by
    rcases hs.sub b hm with h1|h1
    · exact (h.2.2 b hb).1 h1
    · have:=hlt b hb;omega,(h.2.2 b hb).2⟩⟩⟩
def Aside (W:World) (Q:List Own) (Φ:PW):PW:=fun M w=>Φ (dom Q++M) w∧ParkedL W Q M w
instance instStableAside (W:World) (Q:List Own) (Φ:PW) [Stable Φ]:Stable (Aside W Q Φ) :=
  have h1:Stable (fun M w=>Φ (dom Q++M) w):=instStableMore (dom Q) Φ
  instStableAnd (fun M w=>Φ (dom Q++M) w) (fun M w=>ParkedL W Q M w)
theorem Ctx.aside {Q:List Own} (c:Ctx W w (Q++S) Φ):Ctx W w S (Aside W Q Φ):=by
  have hd:=dom_app Q S
  have hn:=c.nodup
  rw [hd,List.nodup_append] at hn
  refine ⟨c.chg,fun x hx=>c.own x (List.mem_append_right _ hx),fun b hb=>c.young b (by rw [hd];exact List.mem_append_right _ hb),hn.2.1,?_,fun o ho=>c.own o (List.mem_append_left _ ho),hn.1,fun b hb=>⟨fun hm=>hn.2.2 b hb b hm rfl,c.young b (by rw [hd];exact List.mem_append_left _ hb)⟩⟩
  have:=c.phi
  rw [hd] at this
  exact this
theorem Aside.less [Stable Φ] {Q:List Own} {M:List Nat} (h:Aside W Q Φ M w):Φ M w:=Stable.less h.1
theorem Ctx.re (c:Ctx W w S Φ) (e:S=S'):Ctx W w S' Φ:=e ▸ c
theorem Ctx.dropF [Stable Φ] {Q T G:List Own} (c:Ctx W w (Q++T++G) Φ):Ctx W w (T++G) Φ:=Ctx.right (S:=Q) (c.re (List.append_assoc _ _ _))
theorem Ctx.bufGet (c:Ctx W w S Φ) (k:Nat) {p:Option Addr} {n cap:Nat} {cs:List Value} {t:TypeId} {size:Nat} (hk:S[k]? = some (.buf p n cap cs t size)) {b i:Nat} {v:Value} (hp:p=some ⟨b,0,none⟩) (hv:cs[i]? = some v):w.cell? ⟨b,i,none⟩=some v:=by
  obtain ⟨b',h1,_,h2⟩:=c.bufCell k hk (by have:=(List.getElem?_eq_some_iff.1 hv).1;omega)
  rw [hp] at h1
  cases h1
  exact (h2 _ _ hv).1
end
end Go.Vc
end

section
namespace Go.Vc
open Go.ChangeShapes Go.WideShapes Go.RowKit
section
variable {H:Type} {enc:TypeId × Value→H} {P:Program} {W:World}
theorem open_gv {α:Type} [Gv α] (d:Nat) {t:TypeId} {v:Value} {x:DataW H} {ps:List MemPlace} (hty:Ty.is P d (Gv.ty α) t=true) (h:DataW.Trod enc P W 0 (fun _=>true) true t v x ps):∃ y:α,Gv.rep [] W v.cells.toList y:=by
  obtain ⟨fuel,h⟩:=h
  exact Gv.opens.ap hty h
theorem open_sl {α:Type} [Gv α] (d:Nat) {t e:TypeId} {v:Value} {r:Reach} {base:Nat} {x:DataW H} {ps:List MemPlace} (ht:P.underlying t=some (.slice e)) (hv:Value.okWide P W r base t v) (hty:Ty.is P d (Gv.ty (List α)) t=true)
    (h:DataW.Trod enc P W 0 (fun _=>true) true t v x ps):∃ (p:Option Addr) (cap:Nat) (l:List α),v=.slice p l.length cap∧l.length≤cap∧cap≤maxLen∧Sl [] W p l:=by
  obtain ⟨a,len,cap,rfl⟩:=okWide_slice ht hv
  obtain ⟨l,hl⟩:=open_gv (α:=List α) d hty h
  obtain ⟨p,c,e,h1,h2,h3⟩:=rep_list.1 hl
  simp only [Value.cells,List.cons.injEq,Value.slice.injEq,and_true] at e
  obtain ⟨rfl,rfl,rfl⟩:=e
  exact ⟨a,cap,l,rfl,h1,h2,h3⟩
theorem GivesIn.law {Φ:PW} {f:FuncId} {args:Array Value} (h:GivesIn Φ P f args (.bool true)) (h0:Φ [] W):Calls P f args W fun e W'=>∃ u,e=.returned u∧(u=.bool true∧Chg [] W W') :=
  (h.go W W [] (Ctx.start W h0)).mono fun e w' ⟨h1,h2⟩=>⟨_,h1,rfl,h2.chg⟩
end
end Go.Vc
end

section
namespace Go.Vc
open Go.RowKit Go.Shelf
section
variable {P:Program} {W w w':World} {S R F:List Own} {Φ Ψ:PW}
theorem Ctx.lose [Stable Φ] (c:Ctx W w (R++S) Φ) (h:Chg (dom R) w w'):Ctx W w' S Φ:=by
  have hn:=c.nodup
  rw [dom_app,List.nodup_append] at hn
  refine c.go ⟨h.mono fun x hx=>by rw [dom_app];exact List.mem_append_left _ hx,fun b hb=>.inl (by rw [dom_app];exact List.mem_append_right _ hb)⟩ (fun o ho=>?_) hn.2.1
  exact Own.at_keep (c.own o (List.mem_append_right _ ho)) fun b hb=>h.block b (c.lt (mem_dom (List.mem_append_right _ ho) hb)) fun hm=>hn.2.2 b hm b (mem_dom ho hb) rfl
theorem Ctx.appStr [Stable Φ] {p:Option Addr} {n cap:Nat} {cs:List Value} {e:TypeId} (c:Ctx W w (.buf p n cap cs e 1 :: S) Φ) {t u ty:TypeId} {kb:Array Bool} {i:TypeInfo}
    (ht:P.underlying t=some (.slice e)) (hu:P.underlying u=some .string) (hi:P.info? e=some i) (hz:i.zero=some (.int .u8 0)) (hsize:i.size=1) (hby:i.bytes=1) (s:ByteArray)
    (hb:n+s.size≤140737488355328) (h63:n+s.size≤maxLen) :
    ∃ p' cap' w',Sem.run P (builtin Builtin.append #[t,u] ty kb #[.slice p n cap,.string s]) w=.ok (.value (.slice p' (n+s.size) cap')) w'∧Ctx W w' (.buf p' (n+s.size) cap' (cs++Lib.strCells s) e 1 :: S) Φ:=by
  have hown:=c.own _ (List.mem_cons_self)
  obtain ⟨hcl,hown⟩:=hown
  have hxl:cs.length=n:=by simpa using hcl
  have hlen:(cs++Lib.strCells s).length=(n+s.size)*1:=by rw [List.length_append,hxl,Lib.strCells_length,Nat.mul_one]
  have grown:∀ (old:Nat),old<n+s.size →
      Ctx W (w.drew.alloc (.cells (cs.toArray++(Lib.strCells s).toArray++Builtin.zeroCells (Value.int .u8 0).cells (grownCap w (n+s.size) old e - (n+s.size))) e))
        (.buf (some ⟨w.heap.size,0,none⟩) (n+s.size) (grownCap w (n+s.size) old e) (cs++Lib.strCells s) e 1 :: S) Φ:=by
    intro old ho
    have hge:=grownCap_ge w (n+s.size) old e
    have hcm:grownCap w (n+s.size) old e≤maxLen:=grownCap_le_maxLen w (n+s.size) old e h63
    have h:=c.upd (k:=0) (o':=.buf (some ⟨w.heap.size,0,none⟩) (n+s.size) (grownCap w (n+s.size) old e) (cs++Lib.strCells s) e 1) rfl (((Chg.refl _ _).drewN 1).alloc (.cells (cs.toArray++(Lib.strCells s).toArray++Builtin.zeroCells (Value.int .u8 0).cells (grownCap w (n+s.size) old e - (n+s.size))) e)) (by simp [Own.dom]) (by simp [Own.dom])
      ⟨hlen,.inr ⟨w.heap.size,_,_,rfl,Nat.zero_le _,hp_alloc_new w.drew _,hge,hcm,?_,?_⟩⟩
    · exact h
    · have hz1:(Value.int IntKind.u8 0).cells.size=1:=rfl
      simp only [Array.size_append,List.size_toArray,size_zeroCells,hz1,hxl,Lib.strCells_length]
      omega
    · simp only [Array.toList_append,List.append_assoc]
      rw [←List.append_assoc,←hlen]
      exact List.take_left
  rcases hown with ⟨e1,rfl⟩|⟨g,cap',cur,e1,_,hg,hnc,hcm,hcs,htake⟩
  · cases e1
    have hx:cs=[]:=List.eq_nil_of_length_eq_zero hxl
    subst hx
    by_cases hm:s.size=0
    · have hn:Lib.strCells s=[]:=List.eq_nil_of_length_eq_zero (by rw [Lib.strCells_length];exact hm)
      refine ⟨none,0,w,run_app ?_,by rw [hm,hn];exact c⟩
      have hf:=Lib.run_firstCells_string (P:=P) w 1 s
      rw [hm] at hf
      simp [Builtin.append_,run_underlying ht,run_underlying hu,sizeOf,typeInfo,hi,hsize,Builtin.lenOf,hm,hf]
    · have hr:=run_append_nil_string (P:=P) w t u ty e i (.int .u8 0) ht hu hi hz s (by omega) (by omega) (by rw [hby];omega)
      have hgr:=grown 0 (by omega)
      simp only [Nat.zero_add,List.nil_append,Array.empty_append] at hgr ⊢
      have e1:(s.data.map fun b=>Value.int .u8 b.toNat)=(Lib.strCells s).toArray:=by
        apply Array.ext'
        simp [Lib.strCells]
      rw [e1] at hr
      exact ⟨_,_,_,run_app hr,hgr⟩
  · cases e1
    have hcs':cur.size=cap:=by simpa using hcs
    have ht':cur.toList.take n=cs:=by simpa using htake
    by_cases hroom:n+s.size≤cap
    · have hr:=Lib.run_append_room_string (P:=P) w t u ty e i ht hu hi hsize g n cap cur hg s hroom (by omega)
      refine ⟨_,_,_,run_app hr,?_⟩
      have h:=c.upd (k:=0) (w':=w.setRow g (cur.toList.take n++Lib.strCells s++cur.toList.drop (n+s.size)).toArray) (o':=.buf (some ⟨g,0,none⟩) (n+s.size) cap (cs++Lib.strCells s) e 1) rfl ⟨rfl,rfl,rfl,by simp,fun b _ hb=>setRow_other w g b _ (by simpa [Own.dom] using hb)⟩ (by simp [Own.dom]) (by simp [Own.dom])
        ⟨hlen,.inr ⟨g,cap,_,rfl,Nat.zero_le _,setRow_heap w g cur _ e _ hg,hroom,hcm,?_,?_⟩⟩
      · exact h
      · simp only [List.size_toArray,List.length_append,List.length_take,List.length_drop,Array.length_toList,Lib.strCells_length]
        omega
      · rw [ht',←hlen]
        exact List.take_left
    · have holds:∀ j u,cs[j]? = some u→w.cell? ((⟨g,0,none⟩:Addr).add j)=some u:=by
        intro j u hj
        have hlt:j<cs.length:=(List.getElem?_eq_some_iff.1 hj).1
        have h2:cur[j]? = some u:=by
          rw [←ht',List.getElem?_take_of_lt (by omega)] at hj
          simpa using hj
        rw [addr_add,Nat.zero_add]
        simp [World.cell?,hg,h2]
      have hr:=Lib.run_append_grow_string (P:=P) w t u ty e i (.int .u8 0) ht hu hi hz ⟨g,0,none⟩ n cap cs (by rw [hsize];simpa using hxl) holds s (by omega) (by omega) (by rw [hby];exact growslice_fits (by omega) (by omega))
      exact ⟨_,_,_,run_app hr,grown cap (by omega)⟩
def Bd (T e:TypeId) (b:Nat) (l:List UInt8) (R:List Own):Prop :=
  ∃ (pa:Value) (p:Option Addr) (cap:Nat),(pa=.pointer none∨pa=.pointer (some ⟨b,0,none⟩))∧R=[.blk b [pa,.slice p l.length cap] T,.buf p l.length cap (Lib.byteCells l) e 1]
theorem Bd.fresh [Stable Φ] {T e:TypeId} {b:Nat} (c:Ctx W w (.blk b [.pointer none,.slice none 0 0] T :: S) Φ):Ctx W w ([.blk b [.pointer none,.slice none 0 0] T,.buf none 0 0 [] e 1]++S) Φ :=
  ((c.buf0 e 1).perm (List.Perm.swap _ _ _))
theorem Bd.nil {T e:TypeId} {b:Nat}:Bd T e b [] [.blk b [.pointer none,.slice none 0 0] T,.buf none 0 0 [] e 1]:=⟨.pointer none,none,0,.inl rfl,rfl⟩
end
section
open Go.Proofs
variable {P:Program} {ρ:Ren}
theorem chg_freeze {a w:World} {D:List Nat} (h:Chg D a w) {p:Addr} (hp:p.block∈D) (n:Nat):Chg D a (w.freeze p n):=by
  refine h.trans (T:=D) ?_ (fun x hx=>.inl hx)
  unfold World.freeze
  split
  · exact Chg.refl _ _
  · refine ⟨rfl,rfl,rfl,by simp,fun k hk hn=>?_⟩
    simp only [Array.getElem?_modify]
    rw [if_neg (fun e=>hn (by rw [←e];exact hp))]
set_option maxHeartbeats 1000000 in
set_option maxRecDepth 100000 in
theorem builder_String_some (L:Lays.n169 P ρ) (X:Builder.Extra P ρ) (b g cap:Nat) (pa:Value) (l:List UInt8) (w:World) (h0:l≠[]) (hbk:w.heap[b]? = some (.cells #[pa,.slice (some ⟨g,0,none⟩) l.length cap] (ρ.t 72) (0,0)))
    (hown:w.ownsRow 0 (ρ.t 5) 1 (.slice (some ⟨g,0,none⟩) l.length cap) l.length (Lib.byteCells l)) :
    Calls P (ρ.f 169) #[.pointer (some ⟨b,0,none⟩)] w fun e w'=>e=.returned (.string ⟨l.toArray⟩)∧Chg [g] w w':=by
  have hl0:l.length≠0:=by simpa using h0
  obtain ⟨cur,hg,hnc,hcm,hcs,htake⟩:∃ cur,w.heap[g]? = some (.cells cur (ρ.t 5) (0,0))∧l.length≤cap∧cap≤maxLen∧cur.size=cap*1∧cur.toList.take (l.length*1)=Lib.byteCells l:=by
    rcases hown.2 with ⟨hv,_⟩|⟨g',cap',cur,hv,_,r⟩
    · cases hv
    · cases hv;exact ⟨cur,r⟩
  have c1:w.drew.cell? ⟨b,1,none⟩=some (.slice (some ⟨g,0,none⟩) l.length cap):=by
    have:w.drew.heap[b]? = some (.cells #[pa,.slice (some ⟨g,0,none⟩) l.length cap] (ρ.t 72) (0,0)):=hbk
    rw [Lib.cell_of_heap this];rfl
  have hSD:(Builtin.unsafeSliceData_ #[(ρ.t 37)] (ρ.t 127) #[.slice (some ⟨g,0,none⟩) l.length cap]).run P w.drew=.ok (.pointer (some ⟨g,0,none⟩)) w.drew :=
    Lib.run_unsafeSliceData_row _ _ _ _ _ _ (by omega)
  have hUS:(Builtin.unsafeString_ #[(ρ.t 127),(ρ.t 3)] (ρ.t 9) #[.pointer (some ⟨g,0,none⟩),.int .i64 l.length]).run P w.drew=.ok (.string ⟨l.toArray⟩) (w.drew.freeze ⟨g,0,none⟩ l.length):=by
    refine Lib.run_unsafeString_row w.drew (ρ.t 127) (ρ.t 3) (ρ.t 9) (ρ.t 5) L.t127 X.cellsByte g cur.size (by have hg':w.drew.heap[g]? = some (.cells cur (ρ.t 5) (0,0)):=hg;simp [World.shape?,hg']) l h0 (by omega) (by unfold maxLen at hcm;omega) ?_
    intro j x hx
    have:=hown.cells (g:=g) rfl j (.int .u8 x.toNat) (by simp [Lib.byteCells,hx])
    exact this
  have mixed:=L.mixed
  have t72:=L.t72;have a72:=L.a72;have z72:=L.z72;have v72:=L.v72;have u72:=run_underlying L.t72
  have t70:=L.t70;have a70:=L.a70;have z70:=L.z70;have v70:=L.v70;have u70:=run_underlying L.t70
  have t37:=L.t37;have a37:=L.a37;have z37:=L.z37;have v37:=L.v37;have u37:=run_underlying L.t37
  have t127:=L.t127;have a127:=L.a127;have z127:=L.z127;have v127:=L.v127;have u127:=run_underlying L.t127
  have t3:=L.t3;have a3:=L.a3;have z3:=L.z3;have v3:=L.v3;have u3:=run_underlying L.t3
  have t9:=L.t9;have a9:=L.a9;have z9:=L.z9;have v9:=L.v9;have u9:=run_underlying L.t9
  have t5:=X.t5;have a5:=X.a5;have z5:=X.z5;have v5:=X.v5;have u5:=run_underlying X.t5
  go_enter L.f169,Body.n169_ntmps ρ
  go_wp2
  go_region_o
  all_goals (go_wp2;go_ret;exact ⟨rfl,chg_freeze ((Chg.refl _ _).drewN 1) (p:=⟨g,0,none⟩) (by simp) _⟩)
set_option maxHeartbeats 2000000 in
set_option maxRecDepth 100000 in
theorem builder_String_nil (L:Lays.n169 P ρ) (X:Builder.Extra P ρ) (b:Nat) (p:Value) (w:World) (hbk:w.heap[b]? = some (.cells #[p,.slice none 0 0] (ρ.t 72) (0,0))) :
    Calls P (ρ.f 169) #[.pointer (some ⟨b,0,none⟩)] w fun e w'=>e=.returned (.string ⟨#[]⟩)∧Chg [] w w':=by
  have hUS:=Any.unsafeString_none L X
  have c1:w.drew.cell? ⟨b,1,none⟩=some (.slice none 0 0):=by
    have:w.drew.heap[b]? = some (.cells #[p,.slice none 0 0] (ρ.t 72) (0,0)):=hbk
    rw [Lib.cell_of_heap this];rfl
  have hSD:(Builtin.unsafeSliceData_ #[(ρ.t 37)] (ρ.t 127) #[.slice none 0 0]).run P w.drew=.ok (.pointer none) w.drew:=rfl
  have mixed:=L.mixed
  have t72:=L.t72;have a72:=L.a72;have z72:=L.z72;have v72:=L.v72;have u72:=run_underlying L.t72
  have t70:=L.t70;have a70:=L.a70;have z70:=L.z70;have v70:=L.v70;have u70:=run_underlying L.t70
  have t37:=L.t37;have a37:=L.a37;have z37:=L.z37;have v37:=L.v37;have u37:=run_underlying L.t37
  have t127:=L.t127;have a127:=L.a127;have z127:=L.z127;have v127:=L.v127;have u127:=run_underlying L.t127
  have t3:=L.t3;have a3:=L.a3;have z3:=L.z3;have v3:=L.v3;have u3:=run_underlying L.t3
  have t9:=L.t9;have a9:=L.a9;have z9:=L.z9;have v9:=L.v9;have u9:=run_underlying L.t9
  have t5:=X.t5;have a5:=X.a5;have z5:=X.z5;have v5:=X.v5;have u5:=run_underlying X.t5
  go_enter L.f169,Body.n169_ntmps ρ
  go_wp2
  go_region_o
  all_goals (go_wp2;go_ret;exact ⟨rfl,(Chg.refl _ _).drewN 1⟩)
set_option maxHeartbeats 2000000 in
set_option maxRecDepth 100000 in
theorem builder_String_noroom (L:Lays.n169 P ρ) (X:Builder.Extra P ρ) (b g:Nat) (p:Value) (cur:Array Value) (w:World) (hbk:w.heap[b]? = some (.cells #[p,.slice (some ⟨g,0,none⟩) 0 0] (ρ.t 72) (0,0))) (hg:w.heap[g]? = some (.cells cur (ρ.t 5) (0,0))) :
    Calls P (ρ.f 169) #[.pointer (some ⟨b,0,none⟩)] w fun e w'=>e=.returned (.string ⟨#[]⟩)∧Chg [] w w':=by
  have hUS:=Any.unsafeString_none L X
  have hlt:b<w.heap.size:=by
    rcases Nat.lt_or_ge b w.heap.size with h'|h'
    · exact h'
    · simp [Array.getElem?_eq_none h'] at hbk
  have c1:w.drew.cell? ⟨b,1,none⟩=some (.slice (some ⟨g,0,none⟩) 0 0):=by
    have:w.drew.heap[b]? = some (.cells #[p,.slice (some ⟨g,0,none⟩) 0 0] (ρ.t 72) (0,0)):=hbk
    rw [Lib.cell_of_heap this];rfl
  have hSD:(Builtin.unsafeSliceData_ #[(ρ.t 37)] (ρ.t 127) #[.slice (some ⟨g,0,none⟩) 0 0]).run P w.drew=.ok (.pointer (some ⟨w.drew.heap.size,0,none⟩)) (w.drew.alloc (.view ⟨g,0,none⟩ (ρ.t 5))) :=
    Lib.run_unsafeSliceData_zero w.drew _ _ (ρ.t 5) L.t127 ⟨g,0,none⟩ 0 ((ρ.t 5),cur.size) (by have hg':w.drew.heap[g]? = some (.cells cur (ρ.t 5) (0,0)):=hg;simp [World.shape?,hg'])
  have c2:(w.drew.alloc (.view ⟨g,0,none⟩ (ρ.t 5))).cell? ⟨b,1,none⟩=some (.slice (some ⟨g,0,none⟩) 0 0):=by
    have:(w.drew.alloc (.view ⟨g,0,none⟩ (ρ.t 5))).heap[b]? = _:=(Lib.alloc_old w.drew _ b hlt).trans hbk
    rw [Lib.cell_of_heap this];rfl
  have c3:(w.alloc (.view ⟨g,0,none⟩ (ρ.t 5))).drew.cell? ⟨b,1,none⟩=some (.slice (some ⟨g,0,none⟩) 0 0):=c2
  have c0:w.cell? ⟨b,1,none⟩=some (.slice (some ⟨g,0,none⟩) 0 0):=c1
  have mixed:=L.mixed
  have t72:=L.t72;have a72:=L.a72;have z72:=L.z72;have v72:=L.v72;have u72:=run_underlying L.t72
  have t70:=L.t70;have a70:=L.a70;have z70:=L.z70;have v70:=L.v70;have u70:=run_underlying L.t70
  have t37:=L.t37;have a37:=L.a37;have z37:=L.z37;have v37:=L.v37;have u37:=run_underlying L.t37
  have t127:=L.t127;have a127:=L.a127;have z127:=L.z127;have v127:=L.v127;have u127:=run_underlying L.t127
  have t3:=L.t3;have a3:=L.a3;have z3:=L.z3;have v3:=L.v3;have u3:=run_underlying L.t3
  have t9:=L.t9;have a9:=L.a9;have z9:=L.z9;have v9:=L.v9;have u9:=run_underlying L.t9
  have t5:=X.t5;have a5:=X.a5;have z5:=X.z5;have v5:=X.v5;have u5:=run_underlying X.t5
  go_enter L.f169,Body.n169_ntmps ρ
  go_wp2
  go_region_o
  all_goals (go_wp2;go_ret;exact ⟨rfl,((Chg.refl _ _).drewN 1).alloc _⟩)
set_option maxHeartbeats 2000000 in
set_option maxRecDepth 100000 in
theorem builder_String_room (L:Lays.n169 P ρ) (X:Builder.Extra P ρ) (b g cap:Nat) (p:Value) (w:World) (hc0:cap≠0) (hbk:w.heap[b]? = some (.cells #[p,.slice (some ⟨g,0,none⟩) 0 cap] (ρ.t 72) (0,0))) :
    Calls P (ρ.f 169) #[.pointer (some ⟨b,0,none⟩)] w fun e w'=>e=.returned (.string ⟨#[]⟩)∧Chg [] w w':=by
  have hUS:=Any.unsafeString_none L X
  have c1:w.drew.cell? ⟨b,1,none⟩=some (.slice (some ⟨g,0,none⟩) 0 cap):=by
    have:w.drew.heap[b]? = some (.cells #[p,.slice (some ⟨g,0,none⟩) 0 cap] (ρ.t 72) (0,0)):=hbk
    rw [Lib.cell_of_heap this];rfl
  have hSD:(Builtin.unsafeSliceData_ #[(ρ.t 37)] (ρ.t 127) #[.slice (some ⟨g,0,none⟩) 0 cap]).run P w.drew=.ok (.pointer (some ⟨g,0,none⟩)) w.drew :=
    Lib.run_unsafeSliceData_row _ _ _ _ _ _ hc0
  clear hc0
  have mixed:=L.mixed
  have t72:=L.t72;have a72:=L.a72;have z72:=L.z72;have v72:=L.v72;have u72:=run_underlying L.t72
  have t70:=L.t70;have a70:=L.a70;have z70:=L.z70;have v70:=L.v70;have u70:=run_underlying L.t70
  have t37:=L.t37;have a37:=L.a37;have z37:=L.z37;have v37:=L.v37;have u37:=run_underlying L.t37
  have t127:=L.t127;have a127:=L.a127;have z127:=L.z127;have v127:=L.v127;have u127:=run_underlying L.t127
  have t3:=L.t3;have a3:=L.a3;have z3:=L.z3;have v3:=L.v3;have u3:=run_underlying L.t3
  have t9:=L.t9;have a9:=L.a9;have z9:=L.z9;have v9:=L.v9;have u9:=run_underlying L.t9
  have t5:=X.t5;have a5:=X.a5;have z5:=X.z5;have v5:=X.v5;have u5:=run_underlying X.t5
  go_enter L.f169,Body.n169_ntmps ρ
  go_wp2
  go_region_o
  all_goals (go_wp2;go_ret;exact ⟨rfl,(Chg.refl _ _).drewN 1⟩)
theorem Bd.string {W w:World} {S R:List Own} {Φ:PW} [Stable Φ] {b:Nat} {l:List UInt8} (L:Lays.n169 P ρ) (X:Builder.Extra P ρ) (h:Bd (ρ.t 72) (ρ.t 5) b l R) (c:Ctx W w (R++S) Φ) {K:Ending→World→Prop}
    (hk:∀ w',Ctx W w' S Φ→K (.returned (.string ⟨l.toArray⟩)) w'):Calls P (ρ.f 169) #[.pointer (some ⟨b,0,none⟩)] w K:=by
  obtain ⟨pa,p,cap,hpa,rfl⟩:=h
  have hbk:w.heap[b]? = some (.cells #[pa,.slice p l.length cap] (ρ.t 72) (0,0)):=c.blk 0 rfl
  have hown:w.ownsRow 0 (ρ.t 5) 1 (.slice p l.length cap) l.length (Lib.byteCells l):=c.own _ (List.mem_cons_of_mem _ List.mem_cons_self)
  by_cases h0:l=[]
  · subst h0
    rcases hown.2 with ⟨e,_⟩|⟨g,cap',cur,e,_,hg,_⟩
    · cases e
      exact (builder_String_nil L X b pa w hbk).mono fun e w' ⟨he,hc⟩=>by subst he;exact hk w' (c.lose (hc.mono (by simp)))
    · cases e
      by_cases hc0:cap=0
      · subst hc0
        exact (builder_String_noroom L X b g pa cur w hbk hg).mono fun e w' ⟨he,hc⟩=>by subst he;exact hk w' (c.lose (hc.mono (by simp)))
      · exact (builder_String_room L X b g cap pa w hc0 hbk).mono fun e w' ⟨he,hc⟩=>by subst he;exact hk w' (c.lose (hc.mono (by simp)))
  · have hl0:l.length≠0:=by simpa using h0
    obtain ⟨g,rfl⟩:∃ g,p=some ⟨g,0,none⟩:=by
      rcases hown.2 with ⟨_,hz⟩|⟨g,cap',cur,hv,_⟩
      · exact absurd hz hl0
      · cases hv;exact ⟨g,rfl⟩
    exact (builder_String_some L X b g cap pa l w h0 hbk hown).mono fun e w' ⟨he,hc⟩=>by subst he;exact hk w' (c.lose (hc.mono (by simp [dom,Own.dom])))
end
def Tab (P:Program) (name:String) (k:IntKind) (zs:List Int):PW:=fun M w=>Lib.TabIs P w name k zs∧∀ g,P.globalNamed name=some g→g ∉ M
instance instStableTab (P:Program) (name:String) (k:IntKind) (zs:List Int):Stable (Tab P name k zs):=⟨fun {M M' w w'} hs h=>by
  obtain ⟨h1,h2⟩:=h
  unfold Lib.TabIs World.var? at h1
  cases hg:P.globalNamed name with
  | none=>simp [hg] at h1
  | some g =>
    simp only [hg,Option.bind_some] at h1
    have hlt:g<w.heap.size:=by
      rcases Nat.lt_or_ge g w.heap.size with h'|h'
      · exact h'
      · rw [Array.getElem?_eq_none h'] at h1;simp at h1
    refine ⟨?_,fun g' hg' hm=>?_⟩
    · unfold Lib.TabIs World.var?
      simp only [hg,Option.bind_some]
      rw [hs.chg.block g hlt (h2 g hg)]
      exact h1
    · rw [hg] at hg'
      cases hg'
      rcases hs.sub g hm with h|h
      · exact h2 g hg h
      · omega⟩
theorem Tab.start {P:Program} {name:String} {k:IntKind} {zs:List Int} {w:World} (h:Lib.TabIs P w name k zs):Tab P name k zs [] w:=⟨h,fun _ _=>by simp⟩
theorem chg_grow {w:World} {k:Nat} {os:Array Obj}:Chg [] w (Sort.grow (w.drewN k) os) :=
  ⟨rfl,rfl,rfl,by show w.heap.size≤(w.heap++os).size;rw [Array.size_append];omega,fun j hj _=>by
    show (w.heap++os)[j]? = w.heap[j]?
    rw [Array.getElem?_append_left hj]⟩
theorem itoa_in {P : Program} {f : FuncId} {Φ : PW} [Stable Φ] {name : String} (hI : ∀ (n : Int), -9223372036854775808 ≤ n → n ≤ 9223372036854775807 → ∀ w, Lib.TabIs P w name .u64 Lib.pow10Tab →
      Calls P f #[.int .i64 n] w fun e w'=>e=.returned (.string ⟨(Lib.itoa n).toArray⟩)∧∃ k os,w'=Sort.grow (w.drewN k) os)
    (hΦ:∀ M w,Φ M w→Tab P name .u64 Lib.pow10Tab M w) (n:Int) (h:I64 n):GivesIn Φ P f #[.int .i64 n] (.string ⟨(Lib.itoa n).toArray⟩) :=
  ⟨fun W w S c=>(hI n (by unfold I64 at h;omega) (by unfold I64 at h;omega) w (hΦ _ _ c.phi).1).mono fun e w' ⟨he,k,os,hw⟩=>⟨he,by rw [hw];exact c.call chg_grow⟩⟩
open Go.ChangeShapes Go.WideShapes Go.ChangeAt
theorem lawTrueLaid {H:Type} {enc:TypeId × Value→H} {C:Checked} {os:Os} {f:FuncId} {fn:Func} {s:ChangeSpec} {conds:List PathCond} {apart fresh handsOn:Bool} {tb:TypeId} {ld:List (String × DataW Unit)}
    (own:ownKnob C.prog.godebug=none) (started:os.Started) (noInit:C.prog.inits.idxOf? f=none) (hfn:C.prog.funcs[f]? = some fn)
    (laid:laidOutB C.prog=true) (hvars:s.vars=[]) (hspec:∀ ds:List (DataW H),ds.length=fn.params.toList.length→(s.fn H (ds++[])).results=[.lit (.bool true)]∧(s.fn H (ds++[])).args=ds∧(s.fn H (ds++[])).vars=[])
    (hres:fn.resultTypes=#[tb]) (htb:C.prog.underlying tb=some .bool)
    (types:(fn.params.toList.all fun t=>C.prog.readableRec t&&decide (t<C.prog.types.size))=true)
    (witness:∃ (w:World) (tape:Tape) (i:Input),w.os=os∧(w.forCall tape i).Shaped C.prog∧i.vars=[]∧Input.okWide C.prog (w.forCall tape i) .any w.heap.size f i ∧
      ((s.pre enc C.prog fn conds apart (w.forCall tape i).memory i.args∧laidMetH C.prog ld (w.forCall tape i).memory)∧sizedMet enc C.prog fn (OpenSpec.ofChange s) apart (w.forCall tape i).memory i.args)∧Assume.holds {} C.prog (lone (Frame.enter C.prog f i.args .normal) [] (w.forCall tape i)))
    (contract:∀ (W:World) (base:Nat) (args:Array Value) (ds:List (DataW H)) (p:List MemPlace),
      (∀ (j:Nat) t v,fn.params[j]? = some t→args[j]? = some v→Value.okWide C.prog W .any base t v) →
      DataW.TrodAll enc C.prog W 0 (fun _=>true) true fn.params.toList args.toList ds p →
      conds.all (PathCond.test C.prog ⟨fn.params.toList,ds,s.plain.varTypes C.prog,[]⟩)=true→laidMetH C.prog ld W →
      Calls C.prog f args W fun e W'=>∃ u,e=.returned u∧(u=.bool true∧Chg [] W W')) :
    ReturnsInHanded {} C os f .any (fun w args=>(s.pre enc C.prog fn conds apart w args∧laidMetH C.prog ld w)∧sizedMet enc C.prog fn (OpenSpec.ofChange s) apart w args) (s.post enc C.prog fn apart fresh handsOn false):=by
  refine returnsInHanded_of_change_and (X:=fun w _=>laidMetH C.prog ld w) (fun _ _ _ hh h=>h.of_heap hh) own started noInit hfn witness ?_
  intro W base args ds gs before hval hW hcnd _ hL _
  have hW':=hW
  obtain ⟨p,q,hA,hV,rfl,_,_⟩:=hW
  rw [hvars] at hV
  obtain ⟨rfl,rfl⟩:=trodVars_none hV
  simp only [List.append_nil] at hW'
  refine (contract W base args ds p hval hA hcnd hL).mono fun e W' ⟨u,he,hu,hc⟩=>?_
  subst he;subst hu
  have hb:Below W.heap.size W W':=hc.below (Nat.le_refl _) (by simp)
  obtain ⟨e1,e2,e3⟩:=hspec ds (trodAll_length hA).2
  refine ⟨_,rfl,ds,[],p,[],p,[],hW',?_,?_,?_,hb.frame _,fun h=>by cases h⟩
  · rw [e1,hres]
    exact trodAll_mk1 (t:=tb) (v:=.bool true) ⟨1,by simp [DataW.trod,Value.cells,htb]⟩
  · rw [e2]
    exact trodAll_below laid hb types hA (fun x hx=>by simpa using hW'.lt x hx)
  · rw [e3,hvars]
    rfl
end Go.Vc
end

section
namespace Go.Vc
section
variable {P:Program} {W w:World} {R G:List Own} {Φ Ψ:PW} {f:FuncId} {args:Array Value}
class Has (Φ Ψ:PW):Prop where
  go:∀ M w,Φ M w→Ψ M w
instance (priority:=2000) hasRefl (Φ:PW):Has Φ Φ:=⟨fun _ _ h=>h⟩
instance (priority:=900) hasL (A B Ψ:PW) [h:Has A Ψ]:Has (fun M w=>A M w∧B M w) Ψ:=⟨fun M w x=>h.go M w x.1⟩
instance (priority:=1000) hasR (A B Ψ:PW) [h:Has B Ψ]:Has (fun M w=>A M w∧B M w) Ψ:=⟨fun M w x=>h.go M w x.2⟩
instance hasTrue (Φ:PW):Has Φ (fun _ _=>True):=⟨fun _ _ _=>trivial⟩
instance (priority:=800) hasAnd (Φ A B:PW) [h:Has Φ A] [k:Has Φ B]:Has Φ (fun M w=>A M w∧B M w):=⟨fun M w x=>⟨h.go M w x,k.go M w x⟩⟩
theorem Ctx.has (c:Ctx W w R Φ) [h:Has Φ Ψ]:Ctx W w R Ψ:=c.weak h.go
theorem GivesSl.to [Stable Φ] {α:Type} [Gv α] {l:List α} (h:GivesSl Φ P f args l id) (c:Ctx W w (R++G) Φ) {K:Option Addr→Nat→Nat→List Own→PW→Prop}
    (hk:∀ p cap,l.length≤cap→cap≤maxLen→Stable (fun M w=>Φ M w∧Sl M w p l)→K p l.length cap R (fun M w=>Φ M w∧Sl M w p l)) :
    Calls P f args w fun e w'=>∃ p n c,e=.returned (.slice p n c)∧∃ R' Φ',Stable Φ'∧Ctx W w' (R'++G) Φ'∧K p n c R' Φ' :=
  h.use c fun p cap w' h1 h2 c=>⟨p,_,cap,rfl,R,_,inferInstance,c,hk p cap h1 h2 inferInstance⟩
theorem GivesIn.toB [Stable Φ] {b:Bool} (h:GivesIn Φ P f args (.bool b)) (c:Ctx W w (R++G) Φ) {K:Bool→List Own→PW→Prop} (hk:K b R Φ) :
    Calls P f args w fun e w'=>∃ c,e=.returned (.bool c)∧∃ R' Φ',Stable Φ'∧Ctx W w' (R'++G) Φ'∧K c R' Φ' :=
  h.use c fun w' c=>⟨b,rfl,R,Φ,inferInstance,c,hk⟩
theorem GivesIn.toI [Stable Φ] {n:Int} {k:IntKind} (h:GivesIn Φ P f args (.int k n)) (c:Ctx W w (R++G) Φ) {K:Int→List Own→PW→Prop} (hk:K n R Φ) :
    Calls P f args w fun e w'=>∃ c,e=.returned (.int k c)∧∃ R' Φ',Stable Φ'∧Ctx W w' (R'++G) Φ'∧K c R' Φ' :=
  h.use c fun w' c=>⟨n,rfl,R,Φ,inferInstance,c,hk⟩
theorem GivesIn.toS [Stable Φ] {s:ByteArray} (h:GivesIn Φ P f args (.string s)) (c:Ctx W w (R++G) Φ) {K:ByteArray→List Own→PW→Prop} (hk:K s R Φ) :
    Calls P f args w fun e w'=>∃ c,e=.returned (.string c)∧∃ R' Φ',Stable Φ'∧Ctx W w' (R'++G) Φ'∧K c R' Φ' :=
  h.use c fun w' c=>⟨s,rfl,R,Φ,inferInstance,c,hk⟩
theorem fin [Stable Φ] [Stable Ψ] [hw:Has Ψ Φ] {v:Value} (c:Ctx W w (R++G) Ψ):v=v∧Ctx W w R Φ:=⟨rfl,(Ctx.has c).left⟩
end
end Go.Vc
end

section
namespace Go.Vc
structure MEnt where
  key:Int × ByteArray
  val:Int
  born:Nat
abbrev keyV (k:Int × ByteArray):Value:=.agg #[.int .i64 k.1,.string k.2]
def MEnt.m (e:MEnt):MapEntry:=⟨keyV e.key,.int .i64 e.val,e.born⟩
def getM:List MEnt→Int × ByteArray→Int
  | [],_=>0
  | e :: es,k=>if k=e.key then e.val else getM es k
structure MapOk (es:List MEnt) (clock:Nat):Prop where
  keys:es.Pairwise fun a b=>a.key≠b.key
  borns:es.Pairwise fun a b=>a.born≠b.born
  lt:∀ e∈es,e.born<clock
structure KeyTy (P:Program) (t k e:TypeId):Prop where
  map:P.underlying t=some (.map k e)
  str:∃ fs,P.underlying k=some (.struct fs)
  chk:∀ b x w,(Instr.checkKey b 10000 k (keyV x)).run P w=.ok () w
  eq:∀ x y w,(Op.equal k (keyV x) (keyV y)).run P w=.ok (decide (x=y)) w
  zero:∀ w,(zeroValue e).run P w=.ok (.int .i64 0) w
section
variable {P:Program} {t k e:TypeId} (T:KeyTy P t k e)
include T
omit T
theorem pair_inj {α β:Type} {f:α→β}:∀ {l:List α},l.Pairwise (fun a b=>f a≠f b)→∀ {a b:α},a∈l→b∈l→f a=f b→a=b
  | [],_,_,_,ha,_,_=>by cases ha
  | x :: l,h,a,b,ha,hb,e=>by
    obtain ⟨h1,h2⟩:=List.pairwise_cons.1 h
    rcases List.mem_cons.1 ha with ea|ha
    · rcases List.mem_cons.1 hb with eb|hb
      · rw [ea,eb]
      · exact absurd (by rw [←ea];exact e) (h1 b hb)
    · rcases List.mem_cons.1 hb with eb|hb
      · exact absurd (by rw [←eb];exact e.symm) (h1 a ha)
      · exact pair_inj h2 ha hb e
theorem findIdx_at {α:Type} {p:α→Bool}:∀ {l:List α} {a:α},a∈l→p a=true→(∀ c∈l,p c=true→c=a)→∃ n,l.findIdx? p=some n∧l[n]? = some a
  | [],_,h,_,_=>by cases h
  | x :: l,a,h,hp,hu=>by
    rw [List.findIdx?_cons]
    by_cases hx:p x=true
    · rw [if_pos hx]
      exact ⟨0,rfl,by rw [hu x (by simp) hx];rfl⟩
    · rw [if_neg hx]
      rcases List.mem_cons.1 h with rfl|h
      · exact absurd hp hx
      · obtain ⟨n,h1,h2⟩:=findIdx_at h hp fun c hc=>hu c (by simp [hc])
        exact ⟨n+1,by rw [h1];rfl,by simpa using h2⟩
include T
end
section
variable {P:Program} {W w:World} {Q R G:List Own} {Φ Ψ:PW} {f:FuncId} {args:Array Value}
structure GivesQ (Q:List Own) (Φ:PW) (P:Program) (f:FuncId) (args:Array Value) (v:Value):Prop where
  go:∀ (W w:World) (S:List Own),Ctx W w (Q++S) Φ→Calls P f args w fun e w'=>e=.returned v∧Ctx W w' (Q++S) Φ
structure GivesQSl (Q:List Own) (Φ:PW) (P:Program) (f:FuncId) (args:Array Value) {α:Type} [Gv α] (l:List α):Prop where
  go:∀ (W w:World) (S:List Own),Ctx W w (Q++S) Φ→Calls P f args w fun e w'=>∃ p cap,e=.returned (.slice p l.length cap)∧l.length≤cap∧cap≤maxLen∧Ctx W w' (Q++S) (fun M w=>Φ M w∧Sl M w p l)
theorem gives_q [Stable Φ] {v:Value} {B:World→List Own→PW→(Value→World→Prop)→Prop}
    (run:∀ {W w:World} {R:List Own} {Φ:PW} [Stable Φ] {J:Value→World→Prop},Ctx W w R Φ→B W R Φ J→Calls P f args w fun e w'=>∃ v,e=.returned v∧J v w')
    (h:∀ (W:World) (R:List Own),B W (Q++R) Φ fun u w'=>u=v∧Ctx W w' (Q++R) Φ):GivesQ Q Φ P f args v :=
  ⟨fun W w S c=>calls_of (run c (h W S)) fun u w' ⟨h1,h2⟩=>⟨by rw [h1],h2⟩⟩
theorem gives_qsl [Stable Φ] {α:Type} [Gv α] {l:List α} {B:World→List Own→PW→(Value→World→Prop)→Prop}
    (run:∀ {W w:World} {R:List Own} {Φ:PW} [Stable Φ] {J:Value→World→Prop},Ctx W w R Φ→B W R Φ J→Calls P f args w fun e w'=>∃ v,e=.returned v∧J v w')
    (h:∀ (W:World) (R:List Own),B W (Q++R) Φ fun u w'=>∃ p cap,u=.slice p l.length cap∧l.length≤cap∧cap≤maxLen∧Ctx W w' (Q++R) (fun M w=>Φ M w∧Sl M w p l)):GivesQSl Q Φ P f args l :=
  ⟨fun W w S c=>calls_of (run c (h W S)) fun u w' ⟨p,cap,h1,h2⟩=>⟨p,cap,by rw [h1],h2⟩⟩
theorem Ctx.inl (c:Ctx W w ((Q++R)++G) Φ):Ctx W w (Q++(R++G)) Φ:=c.re (List.append_assoc _ _ _)
theorem Ctx.outl (c:Ctx W w (Q++(R++G)) Φ):Ctx W w ((Q++R)++G) Φ:=c.re (List.append_assoc _ _ _).symm
theorem GivesQ.toB [Stable Φ] {b:Bool} (h:GivesQ Q Φ P f args (.bool b)) (c:Ctx W w ((Q++R)++G) Φ) {K:Bool→List Own→PW→Prop} (hk:K b (Q++R) Φ) :
    Calls P f args w fun e w'=>∃ c,e=.returned (.bool c)∧∃ R' Φ',Stable Φ'∧Ctx W w' (R'++G) Φ'∧K c R' Φ' :=
  (h.go W w (R++G) c.inl).mono fun e w' ⟨he,c'⟩=>⟨b,he,Q++R,Φ,inferInstance,c'.outl,hk⟩
theorem GivesQ.toI [Stable Φ] {n:Int} {k:IntKind} (h:GivesQ Q Φ P f args (.int k n)) (c:Ctx W w ((Q++R)++G) Φ) {K:Int→List Own→PW→Prop} (hk:K n (Q++R) Φ) :
    Calls P f args w fun e w'=>∃ n,e=.returned (.int k n)∧∃ R' Φ',Stable Φ'∧Ctx W w' (R'++G) Φ'∧K n R' Φ' :=
  (h.go W w (R++G) c.inl).mono fun e w' ⟨he,c'⟩=>⟨n,he,Q++R,Φ,inferInstance,c'.outl,hk⟩
theorem GivesQ.toS [Stable Φ] {s:ByteArray} (h:GivesQ Q Φ P f args (.string s)) (c:Ctx W w ((Q++R)++G) Φ) {K:ByteArray→List Own→PW→Prop} (hk:K s (Q++R) Φ) :
    Calls P f args w fun e w'=>∃ s,e=.returned (.string s)∧∃ R' Φ',Stable Φ'∧Ctx W w' (R'++G) Φ'∧K s R' Φ' :=
  (h.go W w (R++G) c.inl).mono fun e w' ⟨he,c'⟩=>⟨s,he,Q++R,Φ,inferInstance,c'.outl,hk⟩
theorem GivesQSl.tot [Stable Φ] {α:Type} [Gv α] {l:List α} (h:GivesQSl Q Φ P f args l) (c:Ctx W w ((Q++R)++G) Φ) {K:Option Addr→Nat→Nat→List Own→PW→Prop}
    (hk:∀ p cap,l.length≤cap→cap≤maxLen→There p l.length→Stable (fun M w=>Φ M w∧Sl M w p l)→K p l.length cap (Q++R) (fun M w=>Φ M w∧Sl M w p l)) :
    Calls P f args w fun e w'=>∃ p n c,e=.returned (.slice p n c)∧∃ R' Φ',Stable Φ'∧Ctx W w' (R'++G) Φ'∧K p n c R' Φ' :=
  (h.go W w (R++G) c.inl).mono fun e w' ⟨p,cap,he,h1,h2,c'⟩=>⟨p,_,cap,he,Q++R,_,inferInstance,c'.outl,hk p cap h1 h2 c'.phi.2.there inferInstance⟩
end
end Go.Vc
end

section
namespace Go.Vc
variable {κ ν:Type} [DecidableEq κ] {kv:κ→Value} {vv:ν→Value} {z:ν}
structure GEnt (κ ν:Type) where
  key:κ
  val:ν
  born:Nat
def GEnt.m (kv:κ→Value) (vv:ν→Value) (e:GEnt κ ν):MapEntry:=⟨kv e.key,vv e.val,e.born⟩
def gObj (kv:κ→Value) (vv:ν→Value) (es:List (GEnt κ ν)) (clock:Nat):Obj:=.map (es.map (GEnt.m kv vv)).toArray clock
def getG (z:ν):List (GEnt κ ν)→κ→ν
  | [],_=>z
  | e :: es,k=>if k=e.key then e.val else getG z es k
def findG (vv:ν→Value):List (GEnt κ ν)→κ→Nat→Option (Nat × Value)
  | [],_,_=>none
  | e :: es,k,i=>if k=e.key then some (i,vv e.val) else findG vv es k (i+1)
structure GOk (es:List (GEnt κ ν)) (clock:Nat):Prop where
  keys:es.Pairwise fun a b=>a.key≠b.key
  borns:es.Pairwise fun a b=>a.born≠b.born
  lt:∀ e∈es,e.born<clock
structure GTy (P:Program) (t k e:TypeId) (kv:κ→Value) (vv:ν→Value) (z:ν):Prop where
  map:P.underlying t=some (.map k e)
  find:∀ (x:κ) (es:List (GEnt κ ν)) w,(Instr.findKey k (kv x) (es.map (GEnt.m kv vv))).run P w=.ok (findG vv es x 0) w
  chk:∀ b x w,(Instr.checkKey b 10000 k (kv x)).run P w=.ok () w
  stays:∀ x w,(Instr.keyThatStays (kv x) (kv x)).run P w=.ok (kv x) w
  zero:∀ w,(zeroValue e).run P w=.ok (vv z) w
theorem findG_none:∀ {es:List (GEnt κ ν)} {k:κ} {i:Nat},findG vv es k i=none→∀ e∈es,e.key≠k
  | [],_,_,_,e,he=>by cases he
  | x :: es,k,i,h,e,he=>by
    unfold findG at h
    split at h
    · cases h
    · rename_i hk
      rcases List.mem_cons.1 he with rfl|he
      · exact fun e=>hk e.symm
      · exact findG_none h e he
theorem getG_none:∀ {es:List (GEnt κ ν)} {k:κ},(∀ e∈es,e.key≠k)→getG z es k=z
  | [],_,_=>rfl
  | x :: es,k,h=>by
    unfold getG
    rw [if_neg fun e=>h x (by simp) e.symm]
    exact getG_none fun e he=>h e (by simp [he])
theorem findG_some:∀ {es:List (GEnt κ ν)} {k:κ} {i j:Nat} {v:Value},findG vv es k i=some (j,v)→∃ n e,j=i+n∧es[n]? = some e∧e.key=k∧v=vv e.val∧getG z es k=e.val
  | [],_,_,_,_,h=>by cases h
  | x :: es,k,i,j,v,h=>by
    unfold findG at h
    split at h
    · rename_i hk
      cases h
      exact ⟨0,x,rfl,rfl,hk.symm,rfl,by unfold getG;rw [if_pos hk]⟩
    · rename_i hk
      obtain ⟨n,e,h1,h2,h3,h4,h5⟩:=findG_some h
      exact ⟨n+1,e,by omega,by simpa using h2,h3,h4,by unfold getG;rw [if_neg hk];exact h5⟩
section
variable {P:Program} {t k e:TypeId} (T:GTy P t k e kv vv z)
include T
theorem run_lookupG {w:World} {b:Nat} {es:List (GEnt κ ν)} {clock:Nat} (hb:w.heap[b]? = some (gObj kv vv es clock)) (x:κ) :
    Sem.run P (Instr.lookup t (.map (some b)) (kv x) false) w=.ok (vv (getG z es x)) w:=by
  have h1:=T.find x es w
  unfold gObj at hb
  unfold Instr.lookup
  simp only [Sem.run_bind,run_underlying T.map,MapKept.run_getObj_map hb,Result.andThen,T.chk,Sem.run_pure,h1]
  cases hf:findG vv es x 0 with
  | none=>simp only [Sem.run_bind,T.zero,Result.andThen,Sem.run_pure,getG_none (findG_none hf)];rfl
  | some r =>
    obtain ⟨j,v⟩:=r
    obtain ⟨n,e',_,_,_,hv,hg⟩:=findG_some (z:=z) hf
    simp only [Sem.run_pure,Result.andThen]
    rw [hg,hv];rfl
theorem run_entryG {w:World} {b:Nat} {es:List (GEnt κ ν)} {clock:Nat} (ok:GOk es clock) (hb:w.heap[b]? = some (gObj kv vv es clock)) (x:κ) :
    ∃ es1 clock1 s,Sem.run P (Instr.mapEntry t (.map (some b)) (kv x)) w=.ok (.tuple #[vv (getG z es x),.int .i64 (s:Nat)]) (setB w b (gObj kv vv es1 clock1))∧GOk es1 clock1∧(∀ y,getG z es1 y=getG z es y)∧∃ a∈es1,a.key=x∧a.born=s:=by
  have h1:=T.find x es w
  unfold gObj at hb
  cases hf:findG vv es x 0 with
  | none =>
    have hn:=findG_none hf
    refine ⟨es++[⟨x,z,clock⟩],clock+1,clock,?_,⟨?_,?_,?_⟩,fun y=>?_,⟨x,z,clock⟩,by simp,rfl,rfl⟩
    · have h3:=MapKept.run_setObj_map (P:=P) (.map ((es.map (GEnt.m kv vv)).toArray.push ⟨kv x,vv z,clock⟩) (clock+1)) hb
      unfold Instr.mapEntry
      rw [hf] at h1
      simp only [Sem.run_bind,run_underlying T.map,MapKept.run_getObj_map hb,Result.andThen,T.chk,Sem.run_pure,h1,T.zero,h3]
      rw [getG_none hn]
      congr 2
      unfold gObj
      simp [GEnt.m]
    · exact List.pairwise_append.2 ⟨ok.keys,by simp,fun a ha c hc=>by rw [List.mem_singleton.1 hc];exact hn a ha⟩
    · exact List.pairwise_append.2 ⟨ok.borns,by simp,fun a ha c hc=>by rw [List.mem_singleton.1 hc];exact Nat.ne_of_lt (ok.lt a ha)⟩
    · intro a ha
      rcases List.mem_append.1 ha with ha|ha
      · have:=ok.lt a ha;omega
      · rw [List.mem_singleton.1 ha];exact Nat.lt_succ_self _
    · clear hb h1 hf ok
      induction es with
      | nil=>simp [getG]
      | cons a es ih =>
        rw [List.cons_append]
        unfold getG
        split
        · rfl
        · exact ih fun e he=>hn e (by simp [he])
  | some r =>
    obtain ⟨j,v⟩:=r
    obtain ⟨n,a,hj,ha,hk,hv,hg⟩:=findG_some (z:=z) hf
    have hj:j=n:=by omega
    subst hj
    refine ⟨es,clock,a.born,?_,ok,fun _=>rfl,a,List.mem_of_getElem? ha,hk,rfl⟩
    have ha2:(es.map (GEnt.m kv vv)).toArray[j]? = some (GEnt.m kv vv a):=by simp [ha]
    have h3:=MapKept.run_setObj_map (P:=P) (.map ((es.map (GEnt.m kv vv)).toArray.modify j fun e=>{ e with key:=kv x }) clock) hb
    unfold Instr.mapEntry
    rw [hf] at h1
    simp only [Sem.run_bind,run_underlying T.map,MapKept.run_getObj_map hb,Result.andThen,T.chk,Sem.run_pure,h1,ha2,Option.map_some,Option.getD_some]
    rw [show (GEnt.m kv vv a).key=kv x by rw [←hk];rfl,T.stays x w]
    simp only [h3]
    rw [hg,hv]
    congr 2
    unfold gObj
    refine congrArg (fun a=>w.heap.setIfInBounds b (Obj.map a clock)) ?_
    apply Array.ext
    · simp
    · intro i hi1 hi2
      rw [Array.getElem_modify]
      split
      · rename_i e
        subst e
        have:(es.map (GEnt.m kv vv)).toArray[j]=GEnt.m kv vv a:=by
          have:=Array.getElem?_eq_getElem (xs:=(es.map (GEnt.m kv vv)).toArray) hi2
          rw [ha2] at this
          exact (Option.some.inj this).symm
        rw [this,←hk];rfl
      · rfl
omit T
theorem getG_map {s:Nat} {v:ν} {x:κ}:∀ {es:List (GEnt κ ν)},(∀ a∈es,a.born=s ↔ a.key=x)→∀ y,getG z (es.map fun a=>if a.born=s then { a with val:=v } else a) y=if y=x∧∃ a∈es,a.key=x then v else getG z es y
  | [],_,y=>by simp [getG]
  | a :: es,h,y=>by
    have ih:=getG_map (v:=v) (es:=es) (fun a ha=>h a (by simp [ha])) y
    rw [List.map_cons]
    unfold getG
    by_cases h1:a.born=s
    · have hk:=(h a (by simp)).1 h1
      rw [if_pos h1]
      simp only
      by_cases h2:y=a.key
      · rw [if_pos h2,if_pos ⟨h2.trans hk,a,by simp,hk⟩]
      · rw [if_neg h2,if_neg h2,ih,if_neg fun e=>h2 (e.1.trans hk.symm),if_neg fun e=>h2 (e.1.trans hk.symm)]
    · have hk:¬ a.key=x:=fun e=>h1 ((h a (by simp)).2 e)
      rw [if_neg h1]
      by_cases h2:y=a.key
      · rw [if_pos h2,if_pos h2,if_neg fun e=>hk (h2.symm.trans e.1)]
      · rw [if_neg h2,if_neg h2,ih]
        by_cases h3:y=x∧∃ c∈es,c.key=x
        · rw [if_pos h3]
          obtain ⟨h4,c,h5,h6⟩:=h3
          rw [if_pos ⟨h4,c,by simp [h5],h6⟩]
        · rw [if_neg h3,if_neg fun e=>h3 ⟨e.1,by
            obtain ⟨c,h5,h6⟩:=e.2
            rcases List.mem_cons.1 h5 with rfl|h5
            · exact absurd h6 hk
            · exact ⟨c,h5,h6⟩⟩]
theorem run_storeG {w:World} {b:Nat} {es:List (GEnt κ ν)} {clock s:Nat} {x:κ} (t:TypeId) (ok:GOk es clock) (hx:∃ a∈es,a.key=x∧a.born=s) (hb:w.heap[b]? = some (gObj kv vv es clock)) (v:ν) :
    ∃ es1,Sem.run P (Instr.entryStore t (.map (some b)) (.int .i64 (s:Nat)) (vv v)) w=.ok () (setB w b (gObj kv vv es1 clock))∧GOk es1 clock∧∀ y,getG z es1 y=if y=x then v else getG z es y:=by
  obtain ⟨a,ha,hk,hs⟩:=hx
  have hiff:∀ c∈es,c.born=s ↔ c.key=x:=fun c hc=>⟨fun h=>by rw [pair_inj ok.borns hc ha (h.trans hs.symm)];exact hk,fun h=>by rw [pair_inj ok.keys hc ha (h.trans hk.symm)];exact hs⟩
  refine ⟨es.map fun a=>if a.born=s then { a with val:=v } else a,?_,⟨?_,?_,?_⟩,fun y=>?_⟩
  · unfold gObj at hb
    obtain ⟨n,h1,h2⟩:=findIdx_at (p:=fun e:MapEntry=>(e.born:Int) == ((s:Nat):Int)) (l:=es.map (GEnt.m kv vv)) (a:=GEnt.m kv vv a) (List.mem_map.2 ⟨a,ha,rfl⟩) (by
        show ((a.born:Int) == _)=true
        rw [hs];simp) (fun c hc hcb=>by
      obtain ⟨c',hc',rfl⟩:=List.mem_map.1 hc
      have:c'.born=s:=by
        have h:((c'.born:Int) == ((s:Nat):Int))=true:=hcb
        simp at h;omega
      rw [pair_inj ok.borns hc' ha (this.trans hs.symm)])
    have h3:=MapKept.run_setObj_map (P:=P) (.map ((es.map (GEnt.m kv vv)).toArray.modify n fun e=>{ e with val:=vv v }) clock) hb
    have h0:(asIntOf (.int .i64 ((s:Nat):Int))).run P w=.ok (.i64,((s:Nat):Int)) w:=rfl
    unfold Instr.entryStore
    simp only [Sem.run_bind,MapKept.run_getObj_map hb,Result.andThen,Sem.run_pure,asInt]
    have h4:Array.findIdx? (fun e:MapEntry=>(e.born:Int) == ((s:Nat):Int)) (es.map (GEnt.m kv vv)).toArray=some n:=by simpa using h1
    simp only [h0,h4,h3]
    congr 2
    unfold gObj
    refine congrArg (fun a=>w.heap.setIfInBounds b (Obj.map a clock)) ?_
    have h2':es[n]? = some a:=by
      rw [List.getElem?_map] at h2
      cases he:es[n]? with
      | none=>rw [he] at h2;cases h2
      | some c =>
        rw [he] at h2
        have hb2:c.born=a.born:=congrArg MapEntry.born (Option.some.inj h2)
        rw [pair_inj ok.borns (List.mem_of_getElem? he) ha hb2]
    apply Array.ext
    · simp
    · intro i hi1 hi2
      have hi3:i<es.length:=by simpa using hi1
      rw [Array.getElem_modify]
      simp only [List.getElem_toArray,List.getElem_map]
      split
      · rename_i e
        subst e
        have:es[n]=a:=by
          have:=List.getElem?_eq_getElem hi3
          rw [h2'] at this
          exact (Option.some.inj this).symm
        rw [this,if_pos hs];rfl
      · rename_i e
        rw [if_neg]
        intro hbi
        have hea:=pair_inj ok.borns (List.getElem_mem hi3) ha (hbi.trans hs.symm)
        have hn:n<es.length:=(List.getElem?_eq_some_iff.1 h2').1
        have hp:=ok.borns
        rw [List.pairwise_iff_getElem] at hp
        have hna:es[n]=a:=(List.getElem?_eq_some_iff.1 h2').2
        rcases Nat.lt_or_gt_of_ne e with h|h
        · exact hp n i hn hi3 h (by rw [hna,hea])
        · exact hp i n hi3 hn h (by rw [hna,hea])
  · refine List.pairwise_map.2 (ok.keys.imp fun {a b} h=>?_)
    split<;>split<;>exact h
  · refine List.pairwise_map.2 (ok.borns.imp fun {a b} h=>?_)
    split<;>split<;>exact h
  · intro c hc
    obtain ⟨c',hc',rfl⟩:=List.mem_map.1 hc
    have:=ok.lt c' hc'
    split<;>exact this
  · rw [getG_map hiff y]
    by_cases h:y=x
    · rw [if_pos ⟨h,a,ha,hk⟩,if_pos h]
    · rw [if_neg fun e=>h e.1,if_neg h]
omit [DecidableEq κ] in
theorem erase_mapG:∀ (es:List (GEnt κ ν)) (j:Nat),(es.map (GEnt.m kv vv)).eraseIdx j=(es.eraseIdx j).map (GEnt.m kv vv)
  | [],_=>rfl
  | _ :: _,0=>rfl
  | a :: es,j+1=>by
    rw [List.map_cons,List.eraseIdx_cons_succ,List.eraseIdx_cons_succ,List.map_cons,erase_mapG es j]
theorem getG_erase {x:κ}:∀ {es:List (GEnt κ ν)} {n:Nat} {a:GEnt κ ν},es.Pairwise (fun a b=>a.key≠b.key)→es[n]? = some a→a.key=x→∀ y,getG z (es.eraseIdx n) y=if y=x then z else getG z es y
  | [],_,_,_,h,_,_=>by simp at h
  | c :: es,0,a,hp,h,hk,y=>by
    have:c=a:=by simpa using h
    subst this
    rw [List.eraseIdx_cons_zero]
    obtain ⟨h1,_⟩:=List.pairwise_cons.1 hp
    by_cases hy:y=x
    · rw [if_pos hy,hy]
      exact getG_none fun e he h2=>h1 e he (hk.trans h2.symm)
    · rw [if_neg hy]
      unfold getG
      rw [if_neg fun e=>hy (e.trans hk)]
      cases es<;>rfl
  | c :: es,n+1,a,hp,h,hk,y=>by
    obtain ⟨h1,h2⟩:=List.pairwise_cons.1 hp
    have h':es[n]? = some a:=by simpa using h
    have ih:=getG_erase h2 h' hk y
    rw [List.eraseIdx_cons_succ]
    unfold getG
    by_cases hy:y=c.key
    · rw [if_pos hy,if_pos hy,if_neg]
      intro e
      exact h1 a (List.mem_of_getElem? h') (hy.symm.trans (e.trans hk.symm))
    · rw [if_neg hy,if_neg hy]
      exact ih
include T
end
section
variable {P:Program} {t k e:TypeId} (T:GTy P t k e kv vv z)
omit [DecidableEq κ] in
theorem setG_keys (n:Nat) (v:ν):∀ (es:List (GEnt κ ν)),(es.modify n fun a=>{ a with val:=v }).map GEnt.key=es.map GEnt.key:=fun es=>by
  apply List.ext_getElem?
  intro i
  rw [List.getElem?_map,List.getElem?_map,List.getElem?_modify]
  cases es[i]? with
  | none=>rfl
  | some a=>by_cases h:n=i<;>simp [h]
omit [DecidableEq κ] in
theorem setG_borns (n:Nat) (v:ν):∀ (es:List (GEnt κ ν)),(es.modify n fun a=>{ a with val:=v }).map GEnt.born=es.map GEnt.born:=fun es=>by
  apply List.ext_getElem?
  intro i
  rw [List.getElem?_map,List.getElem?_map,List.getElem?_modify]
  cases es[i]? with
  | none=>rfl
  | some a=>by_cases h:n=i<;>simp [h]
theorem getG_snoc {x:κ} {v:ν} {b:Nat}:∀ {es:List (GEnt κ ν)},(∀ a∈es,a.key≠x)→∀ y,getG z (es++[⟨x,v,b⟩]) y=if y=x then v else getG z es y
  | [],_,y=>by simp [getG]
  | a :: es,h,y=>by
    have ih:=getG_snoc (v:=v) (b:=b) (es:=es) (fun a ha=>h a (by simp [ha])) y
    rw [List.cons_append]
    unfold getG
    by_cases h1:y=a.key
    · rw [if_pos h1,if_pos h1,if_neg fun e=>h a (by simp) (h1.symm.trans e)]
    · rw [if_neg h1,if_neg h1,ih]
theorem getG_set {x:κ} {v:ν}:∀ {es:List (GEnt κ ν)} {n:Nat} {a:GEnt κ ν},es.Pairwise (fun a b=>a.key≠b.key)→es[n]? = some a→a.key=x→∀ y,getG z (es.modify n fun a=>{ a with val:=v }) y=if y=x then v else getG z es y
  | [],_,_,_,h,_,_=>by simp at h
  | c :: es,0,a,hp,h,hk,y=>by
    have:c=a:=by simpa using h
    subst this
    rw [List.modify_zero_cons]
    unfold getG
    by_cases hy:y=x
    · rw [if_pos (hy.trans hk.symm),if_pos hy]
    · rw [if_neg fun e=>hy (e.trans hk),if_neg hy]
      cases es<;>simp [getG,hk,hy]
  | c :: es,n+1,a,hp,h,hk,y=>by
    obtain ⟨h1,h2⟩:=List.pairwise_cons.1 hp
    have h':es[n]? = some a:=by simpa using h
    have ih:=getG_set (v:=v) h2 h' hk y
    rw [List.modify_succ_cons]
    unfold getG
    by_cases hy:y=c.key
    · rw [if_pos hy,if_pos hy,if_neg]
      intro e
      exact h1 a (List.mem_of_getElem? h') (hy.symm.trans (e.trans hk.symm))
    · rw [if_neg hy,if_neg hy]
      exact ih
include T
theorem run_updateG {w:World} {b:Nat} {es:List (GEnt κ ν)} {clock:Nat} (ok:GOk es clock) (hb:w.heap[b]? = some (gObj kv vv es clock)) (x:κ) (v:ν) :
    ∃ es1 clock1,Sem.run P (Instr.mapUpdate t (.map (some b)) (kv x) (vv v)) w=.ok () (setB w b (gObj kv vv es1 clock1))∧GOk es1 clock1∧∀ y,getG z es1 y=if y=x then v else getG z es y:=by
  have h1:=T.find x es w
  unfold gObj at hb
  cases hf:findG vv es x 0 with
  | none =>
    have hn:=findG_none hf
    refine ⟨es++[⟨x,v,clock⟩],clock+1,?_,⟨?_,?_,?_⟩,getG_snoc hn⟩
    · have h3:=MapKept.run_setObj_map (P:=P) (.map ((es.map (GEnt.m kv vv)).toArray.push ⟨kv x,vv v,clock⟩) (clock+1)) hb
      unfold Instr.mapUpdate
      rw [hf] at h1
      simp only [Sem.run_bind,run_underlying T.map,MapKept.run_getObj_map hb,Result.andThen,T.chk,Sem.run_pure,h1,h3]
      unfold gObj
      simp [GEnt.m]
      rfl
    · exact List.pairwise_append.2 ⟨ok.keys,by simp,fun a ha c hc=>by rw [List.mem_singleton.1 hc];exact hn a ha⟩
    · exact List.pairwise_append.2 ⟨ok.borns,by simp,fun a ha c hc=>by rw [List.mem_singleton.1 hc];exact Nat.ne_of_lt (ok.lt a ha)⟩
    · intro a ha
      rcases List.mem_append.1 ha with ha|ha
      · have:=ok.lt a ha;omega
      · rw [List.mem_singleton.1 ha];exact Nat.lt_succ_self _
  | some r =>
    obtain ⟨j,u⟩:=r
    obtain ⟨n,a,hj,ha,hk,hv,hg⟩:=findG_some (z:=z) hf
    have hj:j=n:=by omega
    subst hj
    have ha2:(es.map (GEnt.m kv vv)).toArray[j]? = some (GEnt.m kv vv a):=by simp [ha]
    have h3:=MapKept.run_setObj_map (P:=P) (.map ((es.map (GEnt.m kv vv)).toArray.modify j fun e=>{ e with key:=kv x,val:=vv v }) clock) hb
    refine ⟨es.modify j fun a=>{ a with val:=v },clock,?_,⟨?_,?_,?_⟩,getG_set ok.keys ha hk⟩
    · unfold Instr.mapUpdate
      rw [hf] at h1
      simp only [Sem.run_bind,run_underlying T.map,MapKept.run_getObj_map hb,Result.andThen,T.chk,Sem.run_pure,h1,ha2,Option.map_some,Option.getD_some]
      rw [show (GEnt.m kv vv a).key=kv x by rw [←hk];rfl,T.stays x w]
      simp only [h3]
      congr 2
      unfold gObj
      refine congrArg (fun a=>w.heap.setIfInBounds b (Obj.map a clock)) ?_
      apply Array.ext'
      apply List.ext_getElem?
      intro i
      simp only [Array.toList_modify,List.getElem?_modify,List.getElem?_map]
      by_cases h:j=i
      · subst h
        rw [ha]
        simp [GEnt.m,hk]
      · simp [h]
    · have:=List.pairwise_map.2 ok.keys
      exact List.pairwise_map.1 (by rw [setG_keys];exact List.pairwise_map.2 ok.keys)
    · exact List.pairwise_map.1 (by rw [setG_borns];exact List.pairwise_map.2 ok.borns)
    · intro c hc
      have hm:c.born∈(es.modify j fun a=>{ a with val:=v }).map GEnt.born:=List.mem_map.2 ⟨c,hc,rfl⟩
      rw [setG_borns] at hm
      obtain ⟨d,hd,he⟩:=List.mem_map.1 hm
      rw [←he];exact ok.lt d hd
end
section
variable {P:Program} {t k e:TypeId}
theorem findNow_int {kk:IntKind} (x:Int):∀ (es:List (GEnt Int ν)) (i:Nat),Instr.findNow (.int kk) (.int kk x) (es.map (GEnt.m (Value.int kk) vv)) i=some (findG vv es x i)
  | [],_=>rfl
  | a :: es,i=>by
    rw [List.map_cons]
    unfold Instr.findNow
    have e1:Instr.sameNow (.int kk) (.int kk x) (GEnt.m (Value.int kk) vv a).key=some (x == a.key):=by
      show (if kk=kk then some (x == a.key) else none)=_
      rw [if_pos rfl]
    rw [e1]
    unfold findG
    by_cases h:x=a.key
    · rw [if_pos h,show (x == a.key)=true by rw [h];exact beq_self_eq_true _];rfl
    · rw [if_neg h,show (x == a.key)=false from Bool.eq_false_iff.2 fun hb=>h (by simpa using hb)]
      exact findNow_int x es (i+1)
theorem GTy.ofInt {kk:IntKind} (hm:P.underlying t=some (.map k e)) (hk:P.underlying k=some (.int kk)) (hc:∀ b (x:Int) w,(Instr.checkKey b 10000 k (.int kk x)).run P w=.ok () w) (hz:∀ w,(zeroValue e).run P w=.ok (vv z) w):GTy P t k e (Value.int kk) vv z where
  map:=hm
  chk:=hc
  zero:=hz
  stays x w:=by
    have:Instr.sameBits 10000 (.int kk x) (.int kk x)=true:=by
      unfold Instr.sameBits
      simp [Instr.sameBits]
    unfold Instr.keyThatStays
    rw [if_pos this];rfl
  find x es w:=by
    unfold Instr.findKey
    simp only [Sem.run_bind,run_underlying hk,Result.andThen,findNow_int]
    rfl
theorem GTy.ofStruct (hm:P.underlying t=some (.map k e)) (hk0:∃ fs,P.underlying k=some (.struct fs)) (hc:∀ b x w,(Instr.checkKey b 10000 k (kv x)).run P w=.ok () w) (hs:∀ x w,(Instr.keyThatStays (kv x) (kv x)).run P w=.ok (kv x) w)
    (he:∀ x y w,(Op.equal k (kv x) (kv y)).run P w=.ok (decide (x=y)) w) (hz:∀ w,(zeroValue e).run P w=.ok (vv z) w):GTy P t k e kv vv z where
  map:=hm
  chk:=hc
  zero:=hz
  stays:=hs
  find x es w:=by
    obtain ⟨fs,hk⟩:=hk0
    have ask:∀ (es:List (GEnt κ ν)) (i:Nat),(Instr.findAsking k (kv x) (es.map (GEnt.m kv vv)) i).run P w=.ok (findG vv es x i) w:=by
      intro es
      induction es with
      | nil=>intro i;rfl
      | cons a es ih =>
        intro i
        rw [List.map_cons]
        unfold Instr.findAsking
        simp only [Sem.run_bind]
        rw [show (GEnt.m kv vv a).key=kv a.key from rfl,he x a.key w]
        simp only [Result.andThen]
        unfold findG
        by_cases h:x=a.key
        · rw [if_pos (by simpa using h),if_pos h];rfl
        · rw [if_neg (by simpa using h),if_neg h]
          exact ih (i+1)
    unfold Instr.findKey
    simp only [Sem.run_bind,run_underlying hk,Result.andThen]
    cases es with
    | nil=>rfl
    | cons a es =>
      rw [List.map_cons]
      unfold Instr.findNow
      simp only [Instr.sameNow]
      exact ask (a :: es) 0
end
end Go.Vc
end

section
namespace Go.Vc
open Go.ChangeShapes Go.WideShapes Go.ChangeAt Go.RowKit
section
variable {P:Program} {W w:World} {S:List Own} {Φ:PW}
theorem Ctx.appSlW [Stable Φ] {α:Type} [Gv α] {q:Option Addr} {l:List α} {c2:Nat} {p:Option Addr} {n cap:Nat} {cs:List Value} {t:TypeId} {bytes:Nat} (c:Ctx W w (.buf p n cap cs t (Gv.ty α).size :: S) Φ)
    {ts ty:TypeId} {kb:Array Bool} (hb:appB P ts t (Gv.ty α).size bytes=true) (h1:∀ M w cs (x:α),Gv.rep M w cs x→(cs.all fun u=>oneC u)=true) (hsl:∀ M w,Φ M w→Sl M w q l) (h0:0<l.length) (hlen:n+l.length≤140737488355328) (hbytes:(n+l.length)*bytes≤140737488355328) :
    ∃ p' cap' w' news,Sem.run P (builtin Builtin.append #[ts,ts] ty kb #[.slice p n cap,.slice q l.length c2]) w=.ok (.value (.slice p' (n+l.length) cap')) w'∧(∃ g,p'=some ⟨g,0,none⟩) ∧
      Ctx W w' (.buf p' (n+l.length) cap' (cs++news) t (Gv.ty α).size :: S) (fun M w=>Φ M w∧Elems M w news l):=by
  obtain ⟨i,z,e1,e2,e3,e4,e5,e6⟩:=appB_out hb
  have hby:(n+l.length)*i.bytes≤140737488355328:=Nat.le_trans (Nat.mul_le_mul_left _ (by omega)) hbytes
  obtain ⟨b,o,news,hp,g1,g2,g3,g4⟩:=(hsl _ _ c.phi).cells h1 h0
  obtain ⟨p',cap',w',h2,c'⟩:=(c.add (Ψ:=fun M w=>Elems M w news l) g3).append 0 rfl (ty:=ty) e1 e2 e3 e4 e5 (a:=⟨b,o,none⟩) (m:=l.length) (c2:=c2) (news:=news) h0 g1 (fun j u hj=>by rw [addr_add];exact g2 j u hj)
    (fun u hu=>List.all_eq_true.1 g4 u hu) hby hlen
  have hpos:0<(Gv.ty α).size:=Gv.pos
  have hl2:0<l.length*(Gv.ty α).size:=Nat.mul_pos h0 hpos
  refine ⟨p',cap',w',news,by rw [hp];exact run_app h2,?_,c'⟩
  obtain ⟨g,hg,_⟩:=c'.bufCell 0 rfl (by rw [List.length_append];omega)
  exact ⟨g,hg⟩
theorem Ctx.clonedW [Stable Φ] {α:Type} [Gv α] {q:Option Addr} {l:List α} {c2:Nat} {k:Nat} {t:TypeId} {bytes:Nat} (c:Ctx W w (.blk k [] t :: S) Φ)
    {ts ty:TypeId} {kb:Array Bool} (hb:appB P ts t (Gv.ty α).size bytes=true) (h1:∀ M w cs (x:α),Gv.rep M w cs x→(cs.all fun u=>oneC u)=true) (hsl:∀ M w,Φ M w→Sl M w q l) (hlen:l.length≤140737488355328) (hbytes:l.length*bytes≤140737488355328) :
    ∃ p' cap' w' cs,Sem.run P (builtin Builtin.append #[ts,ts] ty kb #[.slice (some ⟨k,0,none⟩) 0 0,.slice q l.length c2]) w=.ok (.value (.slice p' l.length cap')) w' ∧
      Ctx W w' (.buf p' l.length cap' cs t (Gv.ty α).size :: S) (fun M w=>Φ M w∧Elems M w cs l):=by
  have c':Ctx W w (.buf (some ⟨k,0,none⟩) 0 0 [] t (Gv.ty α).size :: S) Φ:=c.toBuf 0 0 (Gv.ty α).size rfl (by simp) (by simp [maxLen])
  rcases Nat.eq_zero_or_pos l.length with h0|h0
  · obtain ⟨i,z,e1,e2,e3,e4,e5,e6⟩:=appB_out hb
    have hl:l=[]:=List.eq_nil_of_length_eq_zero h0
    subst hl
    exact ⟨_,_,w,[],run_app (c'.append0 0 rfl e1 e2 q c2),c'.add Elems.nil⟩
  · obtain ⟨p',cap',w',news,h2,_,c3⟩:=c'.appSlW (ty:=ty) (kb:=kb) (c2:=c2) hb h1 hsl h0 (by omega) (by rw [Nat.zero_add];exact hbytes)
    rw [Nat.zero_add] at h2 c3
    exact ⟨p',cap',w',news,h2,c3⟩
end
end Go.Vc
end

section
namespace Go.Vc
section
variable {ε:Type} {le:ε→ε→Prop}
structure Ord (le:ε→ε→Prop):Prop where
  total:∀ x y,le x y∨le y x
  trans:∀ x y z,le x y→le y z→le x z
theorem Ord.refl (h:Ord le) (x:ε):le x x:=(h.total x x).elim id id
abbrev Asc (le:ε→ε→Prop) (l:List ε):Prop:=l.Pairwise le
structure Chunks (le:ε→ε→Prop) (bs:Nat) (cs:List (List ε)) (rest:List ε):Prop where
  len:∀ c∈cs,c.length=bs
  asc:∀ c∈cs,Asc le c
  last:Asc le rest
  short:rest.length<bs
end
end Go.Vc
end

section
namespace Go.Proofs.YtfccagphnfceiaaGreatDoor
open Go.Vc
structure ValD where
  kind:Int
  num:Int
  text:ByteArray
instance:Gv ValD:=Gv.via (β:=Int × Int × ByteArray) (fun x=>(x.kind,x.num,x.text)) (fun y=>⟨y.1,y.2.1,y.2.2⟩) (fun _=>rfl)
structure DeltaD where
  time:Int
  row:List ValD
  n:Int
instance:Gv DeltaD:=Gv.via (β:=Int × List ValD × Int) (fun x=>(x.time,x.row,x.n)) (fun y=>⟨y.1,y.2.1,y.2.2⟩) (fun _=>rfl)
abbrev ValD.v (x:ValD):Value:=.agg #[.int .i64 x.kind,.int .i64 x.num,.string x.text]
theorem val_ext {x y:ValD}:x=y ↔ (x.kind=y.kind∧(x.num=y.num∧x.text=y.text)):=by
  cases x;cases y;simp
instance:DecidableEq ValD:=fun _ _=>decidable_of_iff _ val_ext.symm
structure Cmp {α:Type} (c:α→α→Int):Prop where
  eq:∀ x y,c x y=0 ↔ x=y
  anti:∀ x y,0<c x y ↔ c y x<0
  trans:∀ x y z,c x y<0→c y z<0→c x z<0
  bd:∀ x y,-1≤c x y∧c x y≤1
theorem Cmp.refl {α:Type} {c:α→α→Int} (h:Cmp c) (x:α):c x x=0:=(h.eq x x).2 rfl
theorem Cmp.tri {α:Type} {c:α→α→Int} (h:Cmp c) (x y:α):c x y<0∨x=y∨c y x<0:=by
  rcases Int.lt_trichotomy (c x y) 0 with h1|h1|h1
  · exact .inl h1
  · exact .inr (.inl ((h.eq x y).1 h1))
  · exact .inr (.inr ((h.anti x y).1 h1))
def cmpI (x y:Int):Int:=if x<y then -1 else if y<x then 1 else 0
theorem cmpI_cmp:Cmp cmpI:=by
  refine ⟨fun x y=>?_,fun x y=>?_,fun x y z=>?_,fun x y=>?_⟩
  · unfold cmpI;split
    · constructor<;>intro h<;>omega
    · split
      · constructor<;>intro h<;>omega
      · constructor<;>intro h<;>omega
  · unfold cmpI;split<;>split<;>try split
    all_goals first|omega|(split<;>omega)
  · unfold cmpI;split
    · intro _
      split
      · intro _;rw [if_pos (by omega)];omega
      · split<;>(intro h;omega)
    · split<;>(intro h;omega)
  · unfold cmpI;split;omega;split<;>omega
theorem bytes_cmp:Cmp Lib.compareBytes:=by
  have heq:∀ a b:List UInt8,Lib.compareBytes a b=0 ↔ a=b:=by
    intro a
    induction a with
    | nil=>intro b;cases b<;>simp [Lib.compareBytes]
    | cons x a ih =>
      intro b
      cases b with
      | nil=>simp [Lib.compareBytes]
      | cons y b =>
        unfold Lib.compareBytes
        split
        · rename_i h;constructor
          · intro h';omega
          · intro h';simp only [List.cons.injEq] at h';rw [h'.1] at h;exact absurd h (by exact UInt8.lt_irrefl y)
        · split
          · rename_i h;constructor
            · intro h';omega
            · intro h';simp only [List.cons.injEq] at h';rw [h'.1] at h;exact absurd h (by exact UInt8.lt_irrefl y)
          · rename_i h1 h2
            have:x=y:=UInt8.le_antisymm (UInt8.not_lt.1 h2) (UInt8.not_lt.1 h1)
            subst this
            rw [ih b]
            simp
  have hanti:∀ a b:List UInt8,0<Lib.compareBytes a b ↔ Lib.compareBytes b a<0:=by
    intro a
    induction a with
    | nil=>intro b;cases b<;>simp [Lib.compareBytes]
    | cons x a ih =>
      intro b
      cases b with
      | nil=>simp [Lib.compareBytes]
      | cons y b =>
        unfold Lib.compareBytes
        by_cases h1:x<y
        · rw [if_pos h1,if_neg (UInt8.lt_asymm h1),if_pos h1];omega
        · rw [if_neg h1]
          by_cases h2:y<x
          · rw [if_pos h2,if_pos h2];omega
          · rw [if_neg h2,if_neg h2,if_neg h1];exact ih b
  have htrans:∀ a b c:List UInt8,Lib.compareBytes a b<0→Lib.compareBytes b c<0→Lib.compareBytes a c<0:=by
    intro a
    induction a with
    | nil =>
      intro b c h1 h2
      cases c with
      | nil=>cases b<;>simp [Lib.compareBytes] at h2
      | cons=>simp [Lib.compareBytes]
    | cons x a ih =>
      intro b c h1 h2
      cases b with
      | nil=>simp [Lib.compareBytes] at h1
      | cons y b =>
        cases c with
        | nil=>simp [Lib.compareBytes] at h2
        | cons z c =>
          unfold Lib.compareBytes at h1 h2 ⊢
          by_cases hxy:x<y
          · by_cases hyz:y<z
            · rw [if_pos (UInt8.lt_trans hxy hyz)];omega
            · rw [if_neg hyz] at h2
              by_cases hzy:z<y
              · rw [if_pos hzy] at h2;omega
              · have:y=z:=UInt8.le_antisymm (UInt8.not_lt.1 hzy) (UInt8.not_lt.1 hyz)
                subst this
                rw [if_pos hxy];omega
          · rw [if_neg hxy] at h1
            by_cases hyx:y<x
            · rw [if_pos hyx] at h1;omega
            · have:x=y:=UInt8.le_antisymm (UInt8.not_lt.1 hyx) (UInt8.not_lt.1 hxy)
              subst this
              rw [if_neg hyx] at h1
              by_cases hyz:x<z
              · rw [if_pos hyz];omega
              · rw [if_neg hyz] at h2 ⊢
                by_cases hzy:z<x
                · rw [if_pos hzy] at h2;omega
                · rw [if_neg hzy] at h2 ⊢
                  exact ih b c h1 h2
  have hbd:∀ a b:List UInt8,-1≤Lib.compareBytes a b∧Lib.compareBytes a b≤1:=by
    intro a
    induction a with
    | nil=>intro b;cases b<;>simp [Lib.compareBytes]
    | cons x a ih =>
      intro b
      cases b with
      | nil=>simp [Lib.compareBytes]
      | cons y b =>
        unfold Lib.compareBytes
        split
        · omega
        · split
          · omega
          · exact ih b
  exact ⟨heq,hanti,htrans,hbd⟩
def cmpT (a b:ByteArray):Int:=Lib.compareBytes a.data.toList b.data.toList
theorem cmpT_cmp:Cmp cmpT :=
  ⟨fun x y=>(bytes_cmp.eq _ _).trans ⟨fun h=>ByteArray.ext (Array.toList_inj.1 h),fun h=>by rw [h]⟩,fun x y=>bytes_cmp.anti _ _,fun x y z=>bytes_cmp.trans _ _ _,fun x y=>bytes_cmp.bd _ _⟩
def orI:List Int→Int
  | []=>0
  | x :: r=>if x≠0 then x else orI r
theorem orI_two (a b:Int):orI [a,b]=if a≠0 then a else b:=by
  unfold orI orI orI
  split
  · rfl
  · split
    · rfl
    · omega
def lex {α β:Type} (c:α→α→Int) (d:β→β→Int) (x y:α × β):Int:=if c x.1 y.1≠0 then c x.1 y.1 else d x.2 y.2
theorem lex_cmp {α β:Type} {c:α→α→Int} {d:β→β→Int} (hc:Cmp c) (hd:Cmp d):Cmp (lex c d):=by
  refine ⟨fun x y=>?_,fun x y=>?_,fun x y z h1 h2=>?_,fun x y=>?_⟩
  · unfold lex
    by_cases h:c x.1 y.1=0
    · rw [if_neg (by simp [h]),hd.eq]
      have:=(hc.eq _ _).1 h
      constructor
      · intro h';exact Prod.ext this h'
      · intro h';rw [h']
    · rw [if_pos h]
      constructor
      · intro h';exact absurd h' h
      · intro h';rw [h'] at h;exact absurd (hc.refl _) h
  · unfold lex
    by_cases h:c x.1 y.1=0
    · have:=(hc.eq _ _).1 h
      rw [if_neg (by simp [h]),if_neg (by rw [this];simp [hc.refl])]
      exact hd.anti _ _
    · have h2:c y.1 x.1≠0:=fun e=>h ((hc.eq _ _).2 ((hc.eq _ _).1 e).symm)
      rw [if_pos h,if_pos h2]
      exact hc.anti _ _
  · unfold lex at h1 h2 ⊢
    by_cases e1:c x.1 y.1=0
    · rw [if_neg (by simp [e1])] at h1
      have q:=(hc.eq _ _).1 e1
      rw [q]
      by_cases e2:c y.1 z.1=0
      · rw [if_neg (by simp [e2])] at h2 ⊢
        exact hd.trans _ _ _ h1 h2
      · rw [if_pos e2] at h2 ⊢
        exact h2
    · rw [if_pos e1] at h1
      by_cases e2:c y.1 z.1=0
      · have q:=(hc.eq _ _).1 e2
        rw [←q,if_pos e1]
        exact h1
      · rw [if_pos e2] at h2
        have:=hc.trans _ _ _ h1 h2
        rw [if_pos (by omega)]
        exact this
  · unfold lex
    split
    · exact hc.bd _ _
    · exact hd.bd _ _
theorem Cmp.on {α β:Type} {c:β→β→Int} (h:Cmp c) (f:α→β) (hf:∀ x y,f x=f y→x=y):Cmp (fun x y=>c (f x) (f y)) :=
  ⟨fun x y=>⟨fun e=>hf _ _ ((h.eq _ _).1 e),fun e=>by rw [e];exact h.refl _⟩,fun x y=>h.anti _ _,fun x y z=>h.trans _ _ _,fun x y=>h.bd _ _⟩
abbrev cmpL (x y:ValD):List Int:=[cmpI x.kind y.kind,cmpI x.num y.num,cmpT x.text y.text]
def cmpV (x y:ValD):Int:=orI (cmpL x y)
theorem cmpV_lex (x y:ValD):cmpV x y=lex cmpI (lex cmpI cmpT) (x.kind,x.num,x.text) (y.kind,y.num,y.text):=by
  unfold cmpV cmpL lex
  rw [orI]
  split
  · rfl
  · rw [orI_two]
theorem cmpV_cmp:Cmp cmpV:=by
  have h:=(lex_cmp cmpI_cmp (lex_cmp cmpI_cmp cmpT_cmp)).on (fun x:ValD=>(x.kind,x.num,x.text)) (fun x y e=>by cases x;cases y;simpa using e)
  have e:cmpV=fun x y=>lex cmpI (lex cmpI cmpT) (x.kind,x.num,x.text) (y.kind,y.num,y.text):=by funext x y;exact cmpV_lex x y
  rw [e];exact h
def cmpR:List ValD→List ValD→Int
  | [],[]=>0
  | [],_ :: _ => -1
  | _ :: _,[]=>1
  | a :: ar,b :: br=>if cmpV a b≠0 then cmpV a b else cmpR ar br
theorem cmpR_cmp:Cmp cmpR:=by
  refine ⟨?_,?_,?_,?_⟩
  · intro x
    induction x with
    | nil=>intro y;cases y<;>simp [cmpR]
    | cons a x ih =>
      intro y
      cases y with
      | nil=>simp [cmpR]
      | cons b y =>
        unfold cmpR
        by_cases h:cmpV a b=0
        · rw [if_neg (by simp [h]),ih y,(cmpV_cmp.eq _ _).1 h];simp
        · rw [if_pos h]
          constructor
          · intro h';exact absurd h' h
          · intro h';simp only [List.cons.injEq] at h';rw [h'.1] at h;exact absurd (cmpV_cmp.refl _) h
  · intro x
    induction x with
    | nil=>intro y;cases y<;>simp [cmpR]
    | cons a x ih =>
      intro y
      cases y with
      | nil=>simp [cmpR]
      | cons b y =>
        unfold cmpR
        by_cases h:cmpV a b=0
        · have:=(cmpV_cmp.eq _ _).1 h
          rw [if_neg (by simp [h]),if_neg (by rw [this];simp [cmpV_cmp.refl])]
          exact ih y
        · have h2:cmpV b a≠0:=fun e=>h ((cmpV_cmp.eq _ _).2 ((cmpV_cmp.eq _ _).1 e).symm)
          rw [if_pos h,if_pos h2]
          exact cmpV_cmp.anti _ _
  · intro x
    induction x with
    | nil =>
      intro y z h1 h2
      cases z with
      | nil=>cases y<;>simp [cmpR] at h2
      | cons=>simp [cmpR]
    | cons a x ih =>
      intro y z h1 h2
      cases y with
      | nil=>simp [cmpR] at h1
      | cons b y =>
        cases z with
        | nil=>simp [cmpR] at h2
        | cons c z =>
          unfold cmpR at h1 h2 ⊢
          by_cases e1:cmpV a b=0
          · rw [if_neg (by simp [e1])] at h1
            have q:=(cmpV_cmp.eq _ _).1 e1
            rw [q]
            by_cases e2:cmpV b c=0
            · rw [if_neg (by simp [e2])] at h2 ⊢
              exact ih y z h1 h2
            · rw [if_pos e2] at h2 ⊢
              exact h2
          · rw [if_pos e1] at h1
            by_cases e2:cmpV b c=0
            · have q:=(cmpV_cmp.eq _ _).1 e2
              rw [←q,if_pos e1]
              exact h1
            · rw [if_pos e2] at h2
              have:=cmpV_cmp.trans _ _ _ h1 h2
              rw [if_pos (by omega)]
              exact this
  · intro x
    induction x with
    | nil=>intro y;cases y<;>simp [cmpR]
    | cons a x ih =>
      intro y
      cases y with
      | nil=>simp [cmpR]
      | cons b y =>
        unfold cmpR
        split
        · exact cmpV_cmp.bd _ _
        · exact ih y
theorem cmpR_left {l r:List ValD} {i:Nat} (hi:i<l.length) (hr:r.length≤i):cmpR (l.drop i) (r.drop i)=1:=by
  rw [List.drop_eq_getElem_cons hi,List.drop_of_length_le hr];rfl
theorem cmpR_both {l r:List ValD} {i:Nat} (hi:i<l.length) (hr:i<r.length):cmpR (l.drop i) (r.drop i)=if cmpV l[i] r[i]≠0 then cmpV l[i] r[i] else cmpR (l.drop (i+1)) (r.drop (i+1)):=by
  rw [List.drop_eq_getElem_cons hi,List.drop_eq_getElem_cons hr];rfl
abbrev Key:Type:=Int × List ValD
abbrev DeltaD.key (x:DeltaD):Key:=(x.time,x.row)
def cmpK (x y:Key):Int:=lex cmpI cmpR x y
theorem cmpK_cmp:Cmp cmpK:=lex_cmp cmpI_cmp cmpR_cmp
abbrev cmpDL (x y:DeltaD):List Int:=[cmpI x.time y.time,cmpR x.row y.row]
def cmpD (x y:DeltaD):Int:=orI (cmpDL x y)
theorem cmpD_key (x y:DeltaD):cmpD x y=cmpK x.key y.key:=by
  unfold cmpD cmpDL cmpK lex
  rw [orI_two]
theorem delta_ext {x y:DeltaD} (h1:x.key=y.key) (h2:x.n=y.n):x=y:=by
  cases x;cases y
  simp only [DeltaD.key,Prod.mk.injEq] at h1
  simp only at h2
  obtain ⟨rfl,rfl⟩:=h1
  subst h2
  rfl
end Go.Proofs.YtfccagphnfceiaaGreatDoor
end

section
namespace Go.Proofs.YtfccagphnfceiaaGreatDoor
open Go.Vc
abbrev w64 (x:Int):Int:=IntKind.i64.wrap x
theorem w64_eq (x:Int):w64 x=if 9223372036854775808≤x % 18446744073709551616 then x % 18446744073709551616 - 18446744073709551616 else x % 18446744073709551616:=by
  simp [w64,IntKind.wrap,IntKind.signed,IntKind.bits]
theorem w64_in (x:Int):I64 (w64 x):=by rw [w64_eq];unfold I64;split<;>omega
theorem w64_id {x:Int} (h:I64 x):w64 x=x:=by rw [w64_eq];unfold I64 at h;split<;>omega
theorem w64_mod (x:Int):(w64 x - x) % 18446744073709551616=0:=by rw [w64_eq];split<;>omega
theorem w64_cong {x y:Int} (h:(x - y) % 18446744073709551616=0):w64 x=w64 y:=by
  rw [w64_eq,w64_eq]
  have:x % 18446744073709551616=y % 18446744073709551616:=by omega
  rw [this]
theorem w64_l (x y:Int):w64 (w64 x+y)=w64 (x+y):=w64_cong (by have:=w64_mod x;omega)
theorem w64_r (x y:Int):w64 (x+w64 y)=w64 (x+y):=w64_cong (by have:=w64_mod y;omega)
theorem w64_w (x:Int):w64 (w64 x)=w64 x:=w64_id (w64_in x)
def sumK:List DeltaD→Key→Int
  | [],_=>0
  | x :: l,k=>(if x.key=k then x.n else 0)+sumK l k
def findP (l:List DeltaD) (k:Key):Int:=w64 (sumK l k)
theorem sumK_app:∀ (a b:List DeltaD) (k:Key),sumK (a++b) k=sumK a k+sumK b k
  | [],b,k=>by simp [sumK]
  | x :: a,b,k=>by simp only [List.cons_append,sumK,sumK_app a b k];omega
theorem sumK_none {l:List DeltaD} {k:Key} (h:∀ x∈l,x.key≠k):sumK l k=0:=by
  induction l with
  | nil=>rfl
  | cons x l ih =>
    simp only [sumK]
    rw [if_neg (h x (by simp)),ih fun y hy=>h y (by simp [hy])]
    rfl
structure Norm (c:List DeltaD):Prop where
  asc:c.Pairwise fun x y=>cmpD x y<0
  nz:∀ x∈c,x.n≠0
  i64:∀ x∈c,I64 x.n
theorem Norm.nil:Norm []:=⟨List.Pairwise.nil,by simp,by simp⟩
theorem Norm.tail {x:DeltaD} {c:List DeltaD} (h:Norm (x :: c)):Norm c:=⟨(List.pairwise_cons.1 h.asc).2,fun y hy=>h.nz y (by simp [hy]),fun y hy=>h.i64 y (by simp [hy])⟩
theorem Norm.head {x:DeltaD} {c:List DeltaD} (h:Norm (x :: c)):∀ y∈c,cmpK x.key y.key<0:=fun y hy=>by
  rw [←cmpD_key];exact (List.pairwise_cons.1 h.asc).1 y hy
theorem Norm.cons {x:DeltaD} {c:List DeltaD} (h:Norm c) (h1:∀ y∈c,cmpK x.key y.key<0) (h2:x.n≠0) (h3:I64 x.n):Norm (x :: c) :=
  ⟨List.pairwise_cons.2 ⟨fun y hy=>by rw [cmpD_key];exact h1 y hy,h.asc⟩,fun y hy=>by rcases List.mem_cons.1 hy with rfl|hy;exact h2;exact h.nz y hy,fun y hy=>by rcases List.mem_cons.1 hy with rfl|hy;exact h3;exact h.i64 y hy⟩
theorem Norm.head_ne {x:DeltaD} {c:List DeltaD} (h:Norm (x :: c)):∀ y∈c,y.key≠x.key:=fun y hy e=>by
  have:=h.head y hy
  rw [e,cmpK_cmp.refl] at this
  omega
theorem Norm.find_head {x:DeltaD} {c:List DeltaD} (h:Norm (x :: c)):findP (x :: c) x.key=x.n:=by
  unfold findP
  rw [show sumK (x :: c) x.key=(if x.key=x.key then x.n else 0)+sumK c x.key from rfl,if_pos rfl,sumK_none h.head_ne,Int.add_zero]
  exact w64_id (h.i64 x (by simp))
theorem norm_unique:∀ {c d:List DeltaD},Norm c→Norm d→(∀ k,findP c k=findP d k)→c=d:=by
  have none:∀ {c:List DeltaD} {x:DeltaD} {l:List DeltaD},Norm (x :: l)→(∀ y∈c,y.key≠x.key)→findP (x :: l) x.key=findP c x.key→False:=fun {c x l} h hc e=>by
    rw [h.find_head] at e
    unfold findP at e
    rw [sumK_none hc] at e
    exact h.nz x (by simp) e
  intro c
  induction c with
  | nil =>
    intro d _ hd h
    cases d with
    | nil=>rfl
    | cons y d=>exact (none (c:=[]) hd (by simp) (h _).symm).elim
  | cons x c ih =>
    intro d hc hd h
    cases d with
    | nil=>exact (none (c:=[]) hc (by simp) (h _)).elim
    | cons y d =>
      rcases cmpK_cmp.tri x.key y.key with hlt|he|hgt
      · refine (none (c:=y :: d) hc (fun z hz e=>?_) (h _)).elim
        rcases List.mem_cons.1 hz with rfl|hz
        · rw [e,cmpK_cmp.refl] at hlt;omega
        · have:=cmpK_cmp.trans _ _ _ hlt (hd.head z hz)
          rw [e,cmpK_cmp.refl] at this;omega
      · have hn:x.n=y.n:=by rw [←hc.find_head,←hd.find_head,←he,h]
        have hxy:x=y:=delta_ext he hn
        subst hxy
        congr 1
        refine ih hc.tail hd.tail fun k=>?_
        by_cases hk:x.key=k
        · subst hk
          unfold findP
          rw [sumK_none hc.head_ne,sumK_none hd.head_ne]
        · have:=h k
          unfold findP at this ⊢
          simp only [sumK] at this
          rwa [if_neg hk,Int.zero_add,Int.zero_add] at this
      · refine (none (c:=x :: c) hd (fun z hz e=>?_) (h _).symm).elim
        rcases List.mem_cons.1 hz with rfl|hz
        · rw [e,cmpK_cmp.refl] at hgt;omega
        · have:=cmpK_cmp.trans _ _ _ hgt (hc.head z hz)
          rw [e,cmpK_cmp.refl] at this;omega
def insD (x:DeltaD):List DeltaD→List DeltaD
  | []=>if w64 x.n=0 then [] else [⟨x.time,x.row,w64 x.n⟩]
  | y :: t=>if cmpD x y<0 then (if w64 x.n=0 then y :: t else ⟨x.time,x.row,w64 x.n⟩ :: y :: t)
      else if cmpD x y=0 then (if w64 (x.n+y.n)=0 then t else ⟨y.time,y.row,w64 (x.n+y.n)⟩ :: t)
      else y :: insD x t
theorem insD_key (x:DeltaD):∀ (c:List DeltaD),∀ z∈insD x c,z.key=x.key∨∃ y∈c,y.key=z.key:=by
  intro c
  induction c with
  | nil =>
    intro z hz
    unfold insD at hz
    split at hz
    · cases hz
    · rcases List.mem_singleton.1 hz with rfl;exact .inl rfl
  | cons y t ih =>
    intro z hz
    unfold insD at hz
    split at hz
    · split at hz
      · exact .inr ⟨z,hz,rfl⟩
      · rcases List.mem_cons.1 hz with rfl|hz
        · exact .inl rfl
        · exact .inr ⟨z,hz,rfl⟩
    · split at hz
      · split at hz
        · exact .inr ⟨z,by simp [hz],rfl⟩
        · rcases List.mem_cons.1 hz with rfl|hz
          · exact .inr ⟨y,by simp,rfl⟩
          · exact .inr ⟨z,by simp [hz],rfl⟩
      · rcases List.mem_cons.1 hz with rfl|hz
        · exact .inr ⟨z,by simp,rfl⟩
        · rcases ih z hz with h|⟨y',hy,h⟩
          · exact .inl h
          · exact .inr ⟨y',by simp [hy],h⟩
theorem insD_norm (x:DeltaD):∀ {c:List DeltaD},Norm c→Norm (insD x c)∧∀ k,findP (insD x c) k=findP (x :: c) k:=by
  intro c
  induction c with
  | nil =>
    intro _
    unfold insD
    split
    · rename_i h
      refine ⟨Norm.nil,fun k=>?_⟩
      unfold findP
      simp only [sumK]
      split
      · rw [Int.add_zero,h];rfl
      · rfl
    · rename_i h
      refine ⟨Norm.nil.cons (by simp) h (w64_in _),fun k=>?_⟩
      unfold findP
      simp only [sumK]
      by_cases hk:x.key=k
      · rw [if_pos hk,if_pos (show (⟨x.time,x.row,w64 x.n⟩:DeltaD).key=k from hk),Int.add_zero,Int.add_zero,w64_w]
      · rw [if_neg hk,if_neg (show ¬ (⟨x.time,x.row,w64 x.n⟩:DeltaD).key=k from hk)]
  | cons y t ih =>
    intro h
    unfold insD
    by_cases h1:cmpD x y<0
    · rw [if_pos h1]
      have hlt:∀ z∈y :: t,cmpK x.key z.key<0:=fun z hz=>by
        rw [cmpD_key] at h1
        rcases List.mem_cons.1 hz with rfl|hz
        · exact h1
        · exact cmpK_cmp.trans _ _ _ h1 (h.head z hz)
      split
      · rename_i hz
        refine ⟨h,fun k=>?_⟩
        unfold findP
        rw [show sumK (x :: y :: t) k=(if x.key=k then x.n else 0)+sumK (y :: t) k from rfl]
        split
        · rw [←w64_l,hz,Int.zero_add]
        · rw [Int.zero_add]
      · rename_i hz
        refine ⟨h.cons hlt hz (w64_in _),fun k=>?_⟩
        unfold findP
        rw [show sumK (x :: y :: t) k=(if x.key=k then x.n else 0)+sumK (y :: t) k from rfl,
          show sumK (⟨x.time,x.row,w64 x.n⟩ :: y :: t) k=(if x.key=k then w64 x.n else 0)+sumK (y :: t) k from rfl]
        split
        · rw [w64_l]
        · rfl
    · rw [if_neg h1]
      by_cases h2:cmpD x y=0
      · rw [if_pos h2]
        have hk:x.key=y.key:=by rw [cmpD_key] at h2;exact (cmpK_cmp.eq _ _).1 h2
        split
        · rename_i hz
          refine ⟨h.tail,fun k=>?_⟩
          unfold findP
          rw [show sumK (x :: y :: t) k=(if x.key=k then x.n else 0)+((if y.key=k then y.n else 0)+sumK t k) from rfl,hk]
          split
          · rw [←Int.add_assoc,←w64_l,hz,Int.zero_add]
          · rw [Int.zero_add,Int.zero_add]
        · rename_i hz
          refine ⟨h.tail.cons (fun z hz'=>h.head z hz') hz (w64_in _),fun k=>?_⟩
          unfold findP
          rw [show sumK (x :: y :: t) k=(if x.key=k then x.n else 0)+((if y.key=k then y.n else 0)+sumK t k) from rfl,hk,
            show sumK (⟨y.time,y.row,w64 (x.n+y.n)⟩ :: t) k=(if y.key=k then w64 (x.n+y.n) else 0)+sumK t k from rfl]
          split
          · rw [w64_l,Int.add_assoc]
          · simp only [Int.zero_add]
      · rw [if_neg h2]
        obtain ⟨ih1,ih2⟩:=ih h.tail
        have hgt:cmpK y.key x.key<0:=by
          rw [cmpD_key] at h1 h2
          exact (cmpK_cmp.anti _ _).1 (by omega)
        refine ⟨ih1.cons (fun z hz=>?_) (h.nz y (by simp)) (h.i64 y (by simp)),fun k=>?_⟩
        · rcases insD_key x t z hz with e|⟨y',hy',e⟩
          · rw [e];exact hgt
          · rw [←e];exact h.head y' hy'
        · have:=ih2 k
          unfold findP at this ⊢
          rw [show sumK (y :: insD x t) k=(if y.key=k then y.n else 0)+sumK (insD x t) k from rfl,show sumK (x :: y :: t) k=(if x.key=k then x.n else 0)+((if y.key=k then y.n else 0)+sumK t k) from rfl,←w64_r,this,w64_r]
          rw [show sumK (x :: t) k=(if x.key=k then x.n else 0)+sumK t k from rfl]
          congr 1
          omega
def consP (l:List DeltaD):List DeltaD:=l.foldr insD []
theorem consP_norm (l:List DeltaD):Norm (consP l)∧∀ k,findP (consP l) k=findP l k:=by
  induction l with
  | nil=>exact ⟨Norm.nil,fun k=>rfl⟩
  | cons x l ih =>
    obtain ⟨h1,h2⟩:=insD_norm x ih.1
    refine ⟨h1,fun k=>?_⟩
    show findP (insD x (consP l)) k=_
    rw [h2]
    have:=ih.2 k
    unfold findP at this ⊢
    rw [show sumK (x :: consP l) k=(if x.key=k then x.n else 0)+sumK (consP l) k from rfl,show sumK (x :: l) k=(if x.key=k then x.n else 0)+sumK l k from rfl,←w64_r,this,w64_r]
theorem consP_is {l c:List DeltaD} (h:Norm c) (hf:∀ k,findP c k=findP l k):consP l=c :=
  norm_unique (consP_norm l).1 h fun k=>by rw [(consP_norm l).2,hf]
end Go.Proofs.YtfccagphnfceiaaGreatDoor
end

section
namespace Go.Proofs.YtfccagphnfceiaaGreatDoor
open Go.Vc
abbrev DeltaD.v (x:DeltaD) (p:Option Addr) (c:Nat):Value:=.agg #[.int .i64 x.time,.slice p x.row.length c,.int .i64 x.n]
abbrev DeltaD.cells (x:DeltaD) (p:Option Addr) (c:Nat):List Value:=[.int .i64 x.time,.slice p x.row.length c,.int .i64 x.n]
theorem delta_cells {M:List Nat} {w:World} {cs:List Value} {x:DeltaD} (h:Gv.rep M w cs x):∃ p c,cs=x.cells p c∧x.row.length≤c∧c≤maxLen∧I64 x.time∧I64 x.n∧Sl M w p x.row:=by
  obtain ⟨_,_,rfl,⟨rfl,ht⟩,_,_,rfl,⟨p,c,rfl,h1,h2,h3⟩,rfl,hn⟩:=h
  exact ⟨p,c,rfl,h1,h2,ht,hn,h3⟩
structure DE where
  d:DeltaD
  p:Option Addr
  c:Nat
abbrev DE.cells (x:DE):List Value:=x.d.cells x.p x.c
abbrev DE.v (x:DE):Value:=x.d.v x.p x.c
def EPhi (es:List DE):PW:=fun M w=>∀ x∈es,Gv.rep M w x.cells x.d
instance instStableEPhi (es:List DE):Stable (EPhi es):=⟨fun hs h x hx=>Gv.stable hs (h x hx)⟩
end Go.Proofs.YtfccagphnfceiaaGreatDoor
end

section
namespace Go.Proofs.YtfccagphnfceiaaGreatDoor
open Go.Vc
end Go.Proofs.YtfccagphnfceiaaGreatDoor
end

section
namespace Go.Proofs.YtfccagphnfceiaaGreatDoor
open Go.Vc
end Go.Proofs.YtfccagphnfceiaaGreatDoor
end

section
namespace Go.Proofs.YtfccagphnfceiaaGreatDoor
open Go.Vc
end Go.Proofs.YtfccagphnfceiaaGreatDoor
end

section
namespace Go.Proofs.YtfccagphnfceiaaGreatDoor
open Go.Vc
end Go.Proofs.YtfccagphnfceiaaGreatDoor
end

section
namespace Go.Proofs.YtfccagphnfceiaaGreatDoor
open Go.Vc
end Go.Proofs.YtfccagphnfceiaaGreatDoor
end

section
namespace Go.Proofs.YtfccagphnfceiaaGreatDoor
open Go.Vc
theorem sl_val {M:List Nat} {w:World} {b o:Nat} {l:List ValD} (h:Sl M w (some ⟨b,o,none⟩) l) {i:Nat} (hi:i<l.length):RowAt w b (o+i*3) [.int .i64 l[i].kind,.int .i64 l[i].num,.string l[i].text]:=by
  obtain ⟨b',o',cs,e,_,h3,_,_,rfl,⟨rfl,_⟩,_,_,rfl,⟨rfl,_⟩,rfl,_⟩:=h i hi
  cases e
  exact h3
theorem sl_int {M:List Nat} {w:World} {b o:Nat} {l:List Int} (h:Sl M w (some ⟨b,o,none⟩) l) {i:Nat} (hi:i<l.length):w.cell? ⟨b,o+i,none⟩=some (.int .i64 l[i]):=by
  obtain ⟨b',o',cs,e,_,h3,rfl,_⟩:=h i hi
  cases e
  have:=h3 0 (by simp)
  simpa [show (Gv.ty Int).size=1 from rfl] using this
end Go.Proofs.YtfccagphnfceiaaGreatDoor
end

section
namespace Go.Proofs.YtfccagphnfceiaaGreatDoor
open Go.Vc
abbrev intv (x:Int):Value:=.int .i64 x
abbrev bufZ (p:Option Addr) (cap:Nat) (zs:List Int):Own:=.buf p zs.length cap (zs.map intv) 3 1
def minZ:List Int→Int
  | []=>0
  | x :: r=>r.foldl min x
theorem minZ_snoc {l:List Int} (h:l≠[]) (x:Int):minZ (l++[x])=min (minZ l) x:=by
  cases l with
  | nil=>exact absurd rfl h
  | cons y l=>simp [minZ]
section
variable {W w w':World} {S:List Own} {Φ:PW} {p:Option Addr} {g cap:Nat} {zs:List Int} {i:Nat} {x:Int}
end
theorem int_one (M:List Nat) (w:World) (cs:List Value) (x:Int) (h:Gv.rep M w cs x):(cs.all fun u=>oneC u)=true:=by
  obtain ⟨rfl,_⟩:=h
  rfl
section
variable {W w:World} {R G:List Own} {Φ PS:PW} {p q:Option Addr} {cap cap2:Nat} {l a b:List Int}
theorem pushZ [Stable PS] {op:Option Addr} {oc kb:Nat} {o:List Int} {x:Int} (ho:o.length<10000000) (cx:Ctx W w (.blk kb [.int .i64 x] 3 :: bufZ op oc o :: R++G) PS) :
    ∃ p c w',Sem.run Tryz.prog (builtin Builtin.append #[23,23] 23 #[false,false] #[.slice op o.length oc,.slice (some ⟨kb,0,none⟩) 1 1]) w=.ok (.value (.slice p (o++[x]).length c)) w'∧Ctx W w' (bufZ p c (o++[x]) :: R++G) PS:=by
  obtain ⟨p',cap',w',hrun,_,cx'⟩:=Ctx.app1 (P:=Tryz.prog) (ts:=23) (ty:=23) (kb:=#[false,false]) (size:=1) (bytes:=8) cx (by kernel_rfl) (by omega) rfl rfl (by omega) (by omega)
  have e:o.length+1=(o++[x]).length:=by simp
  have em:o.map intv++[.int .i64 x]=(o++[x]).map intv:=by rw [List.map_append];rfl
  rw [e] at hrun cx'
  rw [em] at cx'
  exact ⟨p',cap',w',hrun,cx'⟩
theorem CloneZ_in [Stable Φ] (hΦ:∀ M w,Φ M w→Sl M w p l) (hlen:l.length≤17592186044416):GivesNew Φ Tryz.prog F.slices_Clone_int_int #[.slice p l.length cap] l 3:=by
  refine .there (fun M w h=>(hΦ M w h).there) fun hth=>?_
  refine gives_new (Bslices_Clone_int_int_run p l.length cap) fun W R=>?_
  refine Br.intro (fun hn=>fun w F c=>?_) (fun hn=>?_)
  · have hl:l=[]:=by
      cases l with
      | nil=>rfl
      | cons=>obtain ⟨b,o,e⟩:=hth (by simp);rw [e] at hn;cases hn
    subst hl
    exact ⟨none,0,[],rfl,(c.left.buf0 3 1).add Elems.nil⟩
  · intro k w F c
    obtain ⟨p',cap',w',cs,hrun,c'⟩:=Ctx.clonedW (P:=Tryz.prog) (ts:=23) (ty:=23) (kb:=#[false,false]) (bytes:=8) (c2:=cap) c (by kernel_rfl) int_one hΦ (by omega) (by omega)
    exact ⟨_,_,_,_,hrun,_,_,inferInstance,c',fun w F c=>⟨p',cap',cs,rfl,c.left⟩⟩
theorem Min_in [Stable Φ] [hΦ:Has Φ (fun M w=>Sl M w p l)] (h0:0<l.length) (hlen:l.length≤17592186044416):GivesIn Φ Tryz.prog F.slices_Min_int_int #[.slice p l.length cap] (.int .i64 (minZ l)):=by
  refine .there (fun M w h=>(hΦ.go M w h).there) fun hth=>?_
  obtain ⟨g,o,rfl⟩:=hth h0
  refine gives_in (Bslices_Min_int_int_run _ l.length cap) fun W R=>Br.intro (fun h=>by have:=of_decide_eq_true h;omega) (fun _=>⟨by omega,ptrK_intro g o rfl fun w G cx=>⟨l[0],sl_int (hΦ.go _ _ cx.phi) h0,?_⟩⟩)
  clear cx
  refine exI_mk (fun n iI R' Φ' k=>∃ i:Nat,iI=i∧1≤i∧i≤l.length∧n=minZ (l.take i)∧R'=R∧Φ'=Φ∧k=l.length - i) ⟨⟨R,Φ,_,inferInstance,fun w G cx=>cx,1,rfl,by omega,by omega,?_,rfl,rfl,rfl⟩,?_⟩
  · cases l with
    | nil=>simp at h0
    | cons x l=>simp [minZ]
  rintro n iI R1 Φ1 k _ ⟨i,rfl,h1,hi,rfl,rfl,rfl,rfl⟩
  refine Br.intro (fun hlt=>?_) (fun hge=>fun w G cx=>⟨?_,cx.left⟩)
  · have hlt:i<l.length:=by have:=of_decide_eq_true hlt;omega
    refine ⟨by omega,ptrK_intro g o rfl fun w G cx=>⟨l[i],by rw [Int.toNat_natCast];exact sl_int (hΦ.go _ _ cx.phi) hlt,by unfold I64;omega,R1,Φ1,l.length - (i+1),inferInstance,fun w G cx=>cx,⟨i+1,by omega,by omega,hlt,?_,rfl,rfl,rfl⟩,by omega⟩⟩
    rw [List.take_succ_eq_append_getElem hlt,minZ_snoc (by intro e;have:=congrArg List.length e;rw [List.length_take,List.length_nil] at this;omega)]
  · have hge:i=l.length:=by have:=of_decide_eq_false hge;omega
    rw [hge,List.take_length]
end
end Go.Proofs.YtfccagphnfceiaaGreatDoor
end

section
namespace Go.Proofs.YtfccagphnfceiaaGreatDoor
open Go.Vc
theorem pin_delta {M:List Nat} {w:World} {b o:Nat} {cs:List (List Value)} {l:List DeltaD} (h:Pin b o cs l M w) {j:Nat} (hj:j<l.length):∃ p c,cs.getD j []=l[j].cells p c∧l[j].row.length≤c∧c≤maxLen∧I64 l[j].time∧I64 l[j].n∧RowAt w b (o+j*3) (l[j].cells p c):=by
  obtain ⟨_,h1,h2⟩:=h j hj
  obtain ⟨p,c,e,g1,g2,g3,g4,_⟩:=delta_cells h2
  exact ⟨p,c,e,g1,g2,g3,g4,by rw [e] at h1;exact h1⟩
theorem val_one (M:List Nat) (w:World) (cs:List Value) (x:ValD) (h:Gv.rep M w cs x):(cs.all fun u=>oneC u)=true:=by
  obtain ⟨_,_,rfl,⟨rfl,_⟩,_,_,rfl,⟨rfl,_⟩,rfl,_⟩:=h
  rfl
theorem CloneV_in {Φ:PW} [Stable Φ] (p:Option Addr) (cap:Nat) (l:List ValD) (hΦ:∀ M w,Φ M w→Sl M w p l) (hlen:l.length<100000000) :
    GivesNew Φ Tryz.prog F.slices_Clone_api_Value_api_Value #[.slice p l.length cap] l 147:=by
  refine .there (fun M w h=>(hΦ M w h).there) fun hth=>?_
  refine gives_new (Bslices_Clone_api_Value_api_Value_run p l.length cap) fun W R=>?_
  refine Br.intro (fun hn=>fun w F c=>?_) (fun hn=>?_)
  · have hl:l=[]:=by
      cases l with
      | nil=>rfl
      | cons=>obtain ⟨b,o,e⟩:=hth (by simp);rw [e] at hn;cases hn
    subst hl
    exact ⟨none,0,[],rfl,(c.left.buf0 147 3).add Elems.nil⟩
  · intro k w F c
    obtain ⟨p',cap',w',cs,hrun,c'⟩:=Ctx.cloned (P:=Tryz.prog) (ts:=29) (ty:=29) (kb:=#[false,false]) (bytes:=32) (c2:=cap) c (by kernel_rfl) val_one hΦ hlen (by omega)
    exact ⟨_,_,_,_,hrun,_,_,inferInstance,c',fun w F c=>⟨p',cap',cs,rfl,c.left⟩⟩
def rightV3 (x:ValD):Bool:=if x.kind=0 then decide (x.text=ByteArray.mk #[]) else if x.kind=1 then decide (x.num=0)&&decide ((x.text.size:Int)≤200) else decide (x.kind=2)&&(decide (x.num=0)||decide (x.num=1))&&decide (x.text=ByteArray.mk #[])
def rightR (l:List ValD):Bool:=decide ((l.length:Int)≤12)&&l.all rightV3
end Go.Proofs.YtfccagphnfceiaaGreatDoor
end

section
namespace Go.Proofs.YtfccagphnfceiaaGreatDoor
open Go.Vc
structure LineD where
  no:Int
  batch:Int
  time:Int
  row:List ValD
  n:Int
  cause:Int
  why:Int
instance:Gv LineD:=Gv.via (β:=Int × Int × Int × List ValD × Int × Int × Int) (fun x=>(x.no,x.batch,x.time,x.row,x.n,x.cause,x.why)) (fun y=>⟨y.1,y.2.1,y.2.2.1,y.2.2.2.1,y.2.2.2.2.1,y.2.2.2.2.2.1,y.2.2.2.2.2.2⟩) (fun _=>rfl)
abbrev LineD.cells (x:LineD) (p:Option Addr) (c:Nat):List Value:=[.int .i64 x.no,.int .i64 x.batch,.int .i64 x.time,.slice p x.row.length c,.int .i64 x.n,.int .i64 x.cause,.int .i64 x.why]
abbrev LineD.v (x:LineD) (p:Option Addr) (c:Nat):Value:=.agg #[.int .i64 x.no,.int .i64 x.batch,.int .i64 x.time,.slice p x.row.length c,.int .i64 x.n,.int .i64 x.cause,.int .i64 x.why]
structure LineD.In (x:LineD):Prop where
  no:I64 x.no
  batch:I64 x.batch
  time:I64 x.time
  n:I64 x.n
  cause:I64 x.cause
  why:I64 x.why
theorem line_cells {M:List Nat} {w:World} {cs:List Value} {x:LineD} (h:Gv.rep M w cs x):∃ p c,cs=x.cells p c∧x.row.length≤c∧c≤maxLen∧x.In∧Sl M w p x.row:=by
  obtain ⟨_,_,rfl,⟨rfl,h1⟩,_,_,rfl,⟨rfl,h2⟩,_,_,rfl,⟨rfl,h3⟩,_,_,rfl,⟨p,c,rfl,g1,g2,g3⟩,_,_,rfl,⟨rfl,h4⟩,_,_,rfl,⟨rfl,h5⟩,rfl,h6⟩:=h
  exact ⟨p,c,rfl,g1,g2,⟨h1,h2,h3,h4,h5,h6⟩,g3⟩
theorem rep_line {M:List Nat} {w:World} {x:LineD} {p:Option Addr} {c:Nat} (h1:x.row.length≤c) (h2:c≤maxLen) (h:x.In) (h5:Sl M w p x.row):Gv.rep M w (x.cells p c) x :=
  ⟨[_],[_,_,_,_,_,_],rfl,⟨rfl,h.no⟩,[_],[_,_,_,_,_],rfl,⟨rfl,h.batch⟩,[_],[_,_,_,_],rfl,⟨rfl,h.time⟩,[_],[_,_,_],rfl,⟨p,c,rfl,h1,h2,h5⟩,[_],[_,_],rfl,⟨rfl,h.n⟩,[_],[_],rfl,⟨rfl,h.cause⟩,rfl,h.why⟩
theorem line_row {M:List Nat} {w:World} {x:LineD} {p:Option Addr} {c:Nat} (h:Gv.rep M w (x.cells p c) x):Sl M w p x.row:=by
  obtain ⟨p',c',e,_,_,_,h1⟩:=line_cells h
  simp only [LineD.cells,List.cons.injEq,Value.slice.injEq] at e
  rw [e.2.2.2.1.1]
  exact h1
theorem line_one (M:List Nat) (w:World) (cs:List Value) (x:LineD) (h:Gv.rep M w cs x):(cs.all fun u=>oneC u)=true:=by
  obtain ⟨p,c,rfl,_⟩:=line_cells h
  rfl
def LineD.d (x:LineD):DeltaD:=⟨x.time,x.row,x.n⟩
abbrev bufL (p:Option Addr) (n cap:Nat) (cs:List Value):Own:=.buf p n cap cs 31 7
theorem lrow {M:List Nat} {w:World} {cs:List Value} {l:List LineD} (h:Elems M w cs l) {i:Nat} (hi:i<l.length):∃ p c,(cs.drop (i*7)).take 7=l[i].cells p c∧l[i].row.length≤c∧c≤maxLen∧l[i].In∧Sl M w p l[i].row :=
  line_cells (h.2 i hi)
theorem lcells_len {M:List Nat} {w:World} {cs:List Value} {l:List LineD} (h:Elems M w cs l):cs.length=l.length*7:=h.1
theorem l_ptr {W w:World} {S:List Own} {Φ:PW} {p:Option Addr} {n cap:Nat} {cs:List Value} (cx:Ctx W w (bufL p n cap cs :: S) Φ) (h:0<cs.length):∃ g,p=some ⟨g,0,none⟩:=by
  obtain ⟨g,hg,_⟩:=cx.bufCell 0 rfl h
  exact ⟨g,hg⟩
theorem l_at {W w:World} {S:List Own} {Φ:PW} {g n cap:Nat} {cs:List Value} (cx:Ctx W w (bufL (some ⟨g,0,none⟩) n cap cs :: S) Φ) {i:Nat} {x:LineD} {p:Option Addr} {c:Nat} (h:(cs.drop (i*7)).take 7=x.cells p c):RowAt w g (i*7) (x.cells p c) :=
  cx.bufRow 0 rfl rfl (rows_of h)
theorem l_can {W w:World} {S:List Own} {Φ:PW} {g n cap:Nat} {cs:List Value} (cx:Ctx W w (bufL (some ⟨g,0,none⟩) n cap cs :: S) Φ) {o m:Nat} (h:o+m≤cs.length):CanWrite w g o m :=
  cx.bufCan 0 rfl rfl h
theorem setL_cell:∀ (vs:List Value) (k:Nat) (cs:List Value) (o:Nat) (v:Value),k<vs.length→(∀ j,(hj:j<vs.length)→cs[o+j]? = some vs[j])→setL cs (o+k) [v]=setL cs o (vs.set k v):=by
  intro vs k cs o v hk h
  have hlast:o+(vs.length - 1)<cs.length:=(List.getElem?_eq_some_iff.1 (h (vs.length - 1) (by omega))).1
  apply List.ext_getElem?
  intro j
  by_cases h1:j<o
  · rw [setL_get _ _ _ _ (.inl (by omega)),setL_get _ _ _ _ (.inl h1)]
  · by_cases h2:o+vs.length≤j
    · rw [setL_get _ _ _ _ (.inr (by simp;omega)),setL_get _ _ _ _ (.inr (by rw [List.length_set];exact h2))]
    · obtain ⟨m,rfl⟩:∃ m,j=o+m:=⟨j - o,by omega⟩
      rw [setL_in (vs.set k v) cs o m (by rw [List.length_set];omega) (by rw [List.length_set];omega)]
      by_cases h3:m=k
      · subst h3
        have:=setL_in [v] cs (o+m) 0 (by simp) (by simp;omega)
        rw [Nat.add_zero] at this
        rw [this,List.getElem?_set_self hk]
        rfl
      · rw [setL_get _ _ _ _ (by simp;omega),List.getElem?_set_ne (by omega),h m (by omega),List.getElem?_eq_getElem (by omega)]
theorem l_cell {W w w':World} {S:List Own} {Φ:PW} [Stable Φ] {g n cap:Nat} {cs:List Value} {l:List LineD} (cx:Ctx W w (bufL (some ⟨g,0,none⟩) n cap cs :: S) (fun M w=>Φ M w∧Elems M w cs l)) {i:Nat} (hi:i<l.length) (x:LineD) {k:Nat} {v:Value}
    (hk:k<7) (hr:x.row=l[i].row) (hx:∀ p c,(l[i].cells p c).set k v=x.cells p c) (hin:l[i].In→x.In) (e:w'=w.setCell ⟨g,i*7+k,none⟩ v) :
    ∃ cs',cs'.length=cs.length∧Ctx W w' (bufL (some ⟨g,0,none⟩) n cap cs' :: S) (fun M w=>Φ M w∧Elems M w cs' (l.set i x)):=by
  have hl:=lcells_len cx.phi.2
  obtain ⟨p,c,hp,h1,h2,h3,_⟩:=lrow cx.phi.2 hi
  have h:=cx.bufPuts 0 rfl rfl (vs:=[v]) (o:=i*7+k) (by omega) (by simp only [List.length_cons,List.length_nil];omega) e
  have hrows:=rows_of (vs:=l[i].cells p c) hp
  rw [setL_cell (l[i].cells p c) k cs (i*7) v hk hrows,hx p c] at h
  refine ⟨_,setL_len _ _ _,h.weak fun M w h=>⟨h.1,h.2.setAt i hi (rep_line (by rw [hr];exact h1) h2 (hin h3) ?_)⟩⟩
  obtain ⟨p',c',hp',_,_,_,hs⟩:=lrow h.2 hi
  rw [hp] at hp'
  simp only [LineD.cells,List.cons.injEq,Value.slice.injEq] at hp'
  rw [hr,hp'.2.2.2.1.1]
  exact hs
end Go.Proofs.YtfccagphnfceiaaGreatDoor
end

section
namespace Go.Proofs.YtfccagphnfceiaaGreatDoor
open Go.Vc
structure SkD where
  kind:Int
  key:List Int
  bats:List Int
  lines:List LineD
  prep:Int
  aside:List LineD
def lastK (s:SkD):Int:=s.bats.getLast?.getD 0
def hasK (s:SkD) (b:Int):Bool:=decide (b∈s.bats)
def shortK (key:List Int) (r:List ValD):Bool:=key.any fun k=>decide ((r.length:Int)≤k)
def badK (key:List Int) (b:Int) (x:LineD):Bool:=decide (x.batch≠b)||decide (x.n=0) || !rightR x.row||shortK key x.row
def numK:Int→List LineD→Bool
  | _,[]=>true
  | n,x :: l=>decide (x.no=n)&&numK (n+1) l
def lookK (s:SkD) (b:Int) (L:List LineD):Int :=
  if b<1 then 25 else if b≤lastK s then 25 else if L.any (badK s.key b)=true then 1 else if numK ((s.lines.length:Int)+1) L=false then 25 else 0
def takeK (s:SkD) (b:Int) (L:List LineD):SkD:={ s with bats:=s.bats++[b],lines:=s.lines++L }
def prepK (s:SkD) (b:Int) (L:List LineD):Int × SkD :=
  if s.kind≠0 then (7,s) else if hasK s b=true then (0,s) else if lookK s b L≠0 then (lookK s b L,s) else (0,{ s with prep:=b,aside:=L })
def commK (s:SkD) (b:Int):Int × SkD :=
  if s.kind≠0 then (7,s) else if hasK s b=true then (0,s) else if (decide (b<1)||decide (b≠s.prep))=true then (4,s) else (0,{ takeK s b s.aside with prep:=0,aside:=[] })
def abortK (s:SkD) (b:Int):Int × SkD :=
  if s.kind≠0 then (7,s) else if hasK s b=true then (7,s) else if (decide (b<1)||decide (b≠s.prep))=true then (4,s) else (0,{ s with prep:=0,aside:=[] })
def delivK (s:SkD) (b:Int) (L:List LineD):Int × SkD :=
  if s.kind=0 then (7,s) else if hasK s b=true then (0,s) else if lookK s b L≠0 then (lookK s b L,s) else (0,takeK s b L)
def opK (k:Int) (s:SkD) (b:Int) (L:List LineD):Int × SkD :=
  if k=0 then prepK s b L else if k=1 then prepK s b L else if k=2 then commK s b else if k=3 then abortK s b else if k=6 then (0,s) else if k=7 then (0,s) else delivK s b L
structure SkI (s:SkD):Prop where
  asc:s.bats.Pairwise (· < ·)
  pos:∀ b∈s.bats,1≤b∧I64 b
  row:∀ x∈s.lines,rightR x.row=true
  arow:∀ x∈s.aside,rightR x.row=true
structure SkS (s:SkD) (n:Nat):Prop where
  bats:s.bats.length≤20*n
  lines:s.lines.length≤n
  aside:s.aside.length≤n
  key:s.key.length≤20*n
structure KP where
  sb:Nat
  kp:Option Addr
  kc:Nat
  bp:Option Addr
  bc:Nat
  lp:Option Addr
  lc:Nat
  cs:List Value
  ap:Option Addr
  ac:Nat
abbrev SkB (q:KP) (st:SkD):List Value:=[.int .i64 st.kind,.slice q.kp st.key.length q.kc,.slice q.bp st.bats.length q.bc,.slice q.lp st.lines.length q.lc,.int .i64 st.prep,.slice q.ap st.aside.length q.ac]
abbrev SkO (q:KP) (st:SkD):List Own:=[.blk q.sb (SkB q st) 92,bufZ q.bp q.bc st.bats,bufL q.lp st.lines.length q.lc q.cs]
abbrev SkF (q:KP) (st:SkD):PW:=fun M w=>Elems M w q.cs st.lines∧(Sl M w q.kp st.key∧Sl M w q.ap st.aside)
structure SkQ (q:KP) (st:SkD):Prop where
  lpt:0<st.lines.length→∃ g,q.lp=some ⟨g,0,none⟩
  bpt:0<st.bats.length→∃ g,q.bp=some ⟨g,0,none⟩
  lcap:st.lines.length≤q.lc∧q.lc≤maxLen
  bcap:st.bats.length≤q.bc∧q.bc≤maxLen
  kcap:st.key.length≤q.kc∧q.kc≤maxLen
  acap:st.aside.length≤q.ac∧q.ac≤maxLen
  len:q.cs.length=st.lines.length*7
abbrev snk (q:KP):Value:=.pointer (some ⟨q.sb,0,none⟩)
theorem right_len {r:List ValD} (h:rightR r=true):r.length≤12:=by
  unfold rightR at h
  rw [Bool.and_eq_true] at h
  have:=of_decide_eq_true h.1
  omega
theorem lastK_at {s:SkD} (h:s.bats.length≠0):lastK s=s.bats[s.bats.length - 1]'(by omega):=by
  unfold lastK
  rw [List.getLast?_eq_getElem?,List.getElem?_eq_getElem (by omega)];rfl
theorem last_ge {s:SkD} (hI:SkI s) {b:Int} (h:b∈s.bats):b≤lastK s:=by
  obtain ⟨i,hi,rfl⟩:=List.getElem_of_mem h
  rw [lastK_at (by omega)]
  rcases Nat.lt_or_ge i (s.bats.length - 1) with h|h
  · exact Int.le_of_lt (List.pairwise_iff_getElem.1 hI.asc i (s.bats.length - 1) hi (by omega) h)
  · have:i=s.bats.length - 1:=by omega
    subst this;exact Int.le_refl _
theorem look_ok {s:SkD} {b:Int} {L:List LineD} (h:¬ lookK s b L≠0):1≤b∧lastK s<b∧(∀ x∈L,badK s.key b x=false)∧numK ((s.lines.length:Int)+1) L=true:=by
  have h:lookK s b L=0:=Decidable.not_not.1 h
  unfold lookK at h
  split at h
  · exact absurd h (by decide)
  split at h
  · exact absurd h (by decide)
  split at h
  · exact absurd h (by decide)
  split at h
  · exact absurd h (by decide)
  rename_i h1 h2 h3 h4
  exact ⟨by omega,by omega,fun x hx=>by simpa using List.any_eq_false.1 (by simpa using h3) x hx,by simpa using h4⟩
theorem bad_right {key:List Int} {b:Int} {x:LineD} (h:badK key b x=false):x.batch=b∧x.n≠0∧rightR x.row=true∧shortK key x.row=false:=by
  unfold badK at h
  rw [Bool.or_eq_false_iff,Bool.or_eq_false_iff,Bool.or_eq_false_iff] at h
  exact ⟨Decidable.not_not.1 (of_decide_eq_false h.1.1.1),of_decide_eq_false h.1.1.2,by simpa using h.1.2,h.2⟩
theorem take_i {s:SkD} (hI:SkI s) {b:Int} {L:List LineD} (h1:lastK s<b) (h2:1≤b) (h3:I64 b) (h4:∀ x∈L,rightR x.row=true):SkI (takeK s b L) where
  asc:=List.pairwise_append.2 ⟨hI.asc,List.pairwise_singleton _ _,fun a ha c hc=>by
    rw [List.mem_singleton.1 hc]
    have:=last_ge hI ha
    omega⟩
  pos:=fun a ha=>(List.mem_append.1 ha).elim (hI.pos a) fun h=>by rw [List.mem_singleton.1 h];exact ⟨h2,h3⟩
  row:=fun x hx=>(List.mem_append.1 hx).elim (hI.row x) (h4 x)
  arow:=hI.arow
theorem prep_i {s:SkD} (hI:SkI s) {b:Int} {L:List LineD}:SkI (prepK s b L).2:=by
  unfold prepK
  split
  · exact hI
  split
  · exact hI
  split
  · exact hI
  rename_i h1
  obtain ⟨g1,g2,g3,_⟩:=look_ok h1
  exact ⟨hI.asc,hI.pos,hI.row,fun x hx=>(bad_right (g3 x hx)).2.2.1⟩
def PrepOk (s:SkD):Prop:=s.prep≠0→lastK s<s.prep
theorem prep_s {s:SkD} {n m:Nat} (h:SkS s n) {b:Int} {L:List LineD} (hL:L.length≤m):SkS (prepK s b L).2 (n+m):=by
  have hm:SkS s (n+m):=⟨by have:=h.bats;omega,by have:=h.lines;omega,by have:=h.aside;omega,by have:=h.key;omega⟩
  unfold prepK
  split
  · exact hm
  split
  · exact hm
  split
  · exact hm
  exact ⟨hm.bats,hm.lines,by show L.length≤_;omega,hm.key⟩
theorem abort_s {s:SkD} {n:Nat} (h:SkS s n) {b:Int}:SkS (abortK s b).2 n:=by
  unfold abortK
  split
  · exact h
  split
  · exact h
  split
  · exact h
  exact ⟨h.bats,h.lines,Nat.zero_le _,h.key⟩
section
variable {Φ:PW} {q:KP} {st:SkD} {W w:World} {R S G:List Own} {p:Option Addr} {cap:Nat}
theorem sk_cell (cx:Ctx W w ((SkO q st++R)++G) Φ) {i:Nat} {v:Value} (h:(SkB q st)[i]? = some v):w.cell? ⟨q.sb,i,none⟩=some v:=cx.get 0 rfl h
structure SrcZ (S:List Own) (Φ:PW) (p:Option Addr) (l:List Int):Prop where
  ptr:0<l.length→∃ b o,p=some ⟨b,o,none⟩
  rd:∀ {W w:World} {G:List Own} {b o:Nat},p=some ⟨b,o,none⟩→Ctx W w (S++G) Φ→∀ i (h:i<l.length),w.cell? ⟨b,o+i,none⟩=some (.int .i64 l[i])
theorem SrcZ.app {l:List Int} (h:SrcZ S Φ p l):SrcZ (S++R) Φ p l:=⟨h.ptr,fun e c=>h.rd e (c.re (List.append_assoc _ _ _))⟩
theorem srcz_bats (hq:SkQ q st):SrcZ (SkO q st) Φ q.bp st.bats where
  ptr:=fun h=>by obtain ⟨g,hg⟩:=hq.bpt h;exact ⟨g,0,hg⟩
  rd:=fun {W w G b o} e c i h=>by
    obtain ⟨g,hg⟩:=hq.bpt (by omega)
    rw [hg] at e
    cases e
    rw [Nat.zero_add]
    exact c.bufGet 1 rfl hg (by rw [List.getElem?_map,List.getElem?_eq_getElem h];rfl)
theorem Last_q [Stable Φ] (hq:SkQ q st):GivesQ (SkO q st) Φ Tryz.prog F.sink_Sink_Last #[snk q] (.int .i64 (lastK st)):=by
  refine gives_q (Bsink_Sink_Last_run q.sb 0) fun W R=>fun w G cx=>⟨_,_,_,sk_cell (i:=2) cx rfl,Br.intro (fun h=>fun w G cx=>⟨?_,cx.left⟩) (fun h=>fun w G cx=>⟨_,_,_,sk_cell (i:=2) cx rfl,_,_,_,sk_cell (i:=2) cx rfl,?_⟩)⟩
  · have h:=of_decide_eq_true h
    have:st.bats=[]:=List.eq_nil_of_length_eq_zero (by omega)
    unfold lastK
    rw [this];rfl
  · have h:=of_decide_eq_false h
    have h0:st.bats.length≠0:=by omega
    have hb:=hq.bcap
    unfold maxLen at hb
    obtain ⟨g,hg⟩:=hq.bpt (by omega)
    refine ⟨by unfold I64;omega,by omega,ptrK_intro g 0 hg ⟨lastK st,?_,fun w G cx=>⟨rfl,cx.left⟩⟩⟩
    have:=(srcz_bats (Φ:=Φ) hq).rd hg (G:=R++G) (cx.re (List.append_assoc _ _ _)) (st.bats.length - 1) (by omega)
    rw [lastK_at h0,show ((st.bats.length:Int) - 1).toNat=st.bats.length - 1 by omega]
    exact this
theorem Kind_q [Stable Φ]:GivesQ (SkO q st) Φ Tryz.prog F.sink_Sink_Kind #[snk q] (.int .i64 st.kind) :=
  gives_q (Bsink_Sink_Kind_run q.sb 0) fun W R=>fun w G cx=>⟨_,sk_cell (i:=0) cx rfl,fun w G cx=>⟨rfl,cx.left⟩⟩
theorem Prepared_q [Stable Φ]:GivesQ (SkO q st) Φ Tryz.prog F.sink_Sink_Prepared #[snk q] (.int .i64 st.prep) :=
  gives_q (Bsink_Sink_Prepared_run q.sb 0) fun W R=>fun w G cx=>⟨_,sk_cell (i:=4) cx rfl,fun w G cx=>⟨rfl,cx.left⟩⟩
theorem LinesN_q [Stable Φ]:GivesQ (SkO q st) Φ Tryz.prog F.sink_Sink_Lines #[snk q] (.int .i64 st.lines.length) :=
  gives_q (Bsink_Sink_Lines_run q.sb 0) fun W R=>fun w G cx=>⟨_,_,_,sk_cell (i:=3) cx rfl,fun w G cx=>⟨rfl,cx.left⟩⟩
theorem ptrK_of {g:Bool} {p:Option Addr} {K:Nat→Nat→Prop} (h:g=true→∃ b o,p=some ⟨b,o,none⟩) (hk:∀ b o,(g=true→p=some ⟨b,o,none⟩)→K b o):ptrK (some g) p K:=by
  cases hg:g with
  | false=>exact ptrK_off rfl fun b o=>hk b o fun e=>by rw [hg] at e;cases e
  | true =>
    obtain ⟨b,o,hp⟩:=h hg
    exact ptrK_intro b o hp (hk b o fun _=>hp)
theorem sNaN_q (x:Int):Quiet Tryz.prog F.slices_isNaN_int #[.int .i64 x] (.bool false):=quiet_of (fun w J h=>Qslices_isNaN_int_run x w J h) fun w=>⟨by simp,rfl⟩
theorem cNaN_q (x:Int):Quiet Tryz.prog F.cmp_isNaN_int #[.int .i64 x] (.bool false):=quiet_of (fun w J h=>Qcmp_isNaN_int_run x w J h) fun w=>⟨by simp,rfl⟩
theorem less_g (x y:Int):Gives Tryz.prog F.cmp_Less_int #[.int .i64 x,.int .i64 y] (.bool (decide (x<y))) :=
  gives_of (Bcmp_Less_int_run x y) fun W R Φ _=>fun w G c=>⟨false,fun w3 e=>(cNaN_q x).at e,false,fun h=>(by cases h),fun w G c=>⟨by simp,c.left⟩⟩
theorem shr_runT (t:TypeId) (k:Nat) (h:k<9223372036854775808) (w:World):Sem.run Tryz.prog (binOp BinOp.shr t (.int .u64 (IntKind.u64.wrap (k:Int))) (.int .u64 1)) w=.ok (.int .u64 ((k / 2:Nat):Int)) w:=by
  have e:IntKind.u64.wrap (k:Int)=k:=by simp [IntKind.wrap,IntKind.signed,IntKind.bits];omega
  rw [e]
  show Sem.run Tryz.prog (Op.shift .shr .u64 (k:Int) .u64 1) w=_
  unfold Op.shift
  simp [Sem.run_pure]
  show (k:Int).fdiv 2=_
  rw [Int.fdiv_eq_ediv_of_nonneg _ (by decide)]
theorem wrap_n {k:Nat} (h:k≤1000000000):IntKind.i64.wrap (k:Int)=k:=i64_wrap (by unfold I64;omega)
theorem BinS_src [Stable Φ] {l:List Int} (src:SrcZ S Φ p l) (asc:l.Pairwise (· < ·)) (hlen:l.length≤10000000) (t:Int) (c:Ctx W w S Φ) :
    Calls Tryz.prog F.slices_BinarySearch_int_int #[.slice p l.length cap,.int .i64 t] w fun e w'=>∃ n,e=.returned (.tuple #[.int .i64 n,.bool (decide (t∈l))])∧Ctx W w' S Φ:=by
  refine (Bslices_BinarySearch_int_int_run p l.length cap t (J:=fun v w'=>∃ n,v=.tuple #[.int .i64 n,.bool (decide (t∈l))]∧Ctx W w' S Φ) c ?_).mono fun e w' ⟨v,he,n,hv,cx⟩=>⟨n,by rw [he,hv],cx⟩
  clear c
  have hs:=List.pairwise_iff_getElem.1 asc
  refine exI_mk (fun iI jI R' Φ' k=>∃ i j:Nat,iI=i∧jI=j∧i≤j∧j≤l.length∧(∀ a (h:a<l.length),a<i→l[a]<t)∧(∀ a (h:a<l.length),j≤a→t≤l[a])∧R'=S∧Φ'=Φ∧k=j - i)
    ⟨⟨S,Φ,_,inferInstance,fun w G c=>c,0,l.length,rfl,rfl,Nat.zero_le _,Nat.le_refl _,fun a h h0=>by omega,fun a h h0=>by omega,rfl,rfl,rfl⟩,?_⟩
  rintro iI jI R1 Φ1 k _ ⟨i,j,rfl,rfl,hij,hj,hlo,hhi,rfl,rfl,rfl⟩
  refine Br.intro (fun hlt=>?_) (fun hge=>fun w G cx=>?_)
  · have hlt:i<j:=by have:=of_decide_eq_true hlt;omega
    obtain ⟨h,hh⟩:∃ h,(i+j) / 2=h:=⟨_,rfl⟩
    obtain ⟨b,o,hp⟩:=src.ptr (by omega)
    have hhl:h<l.length:=by omega
    refine ⟨by unfold I64;omega,((h:Nat):Int),fun w=>by rw [show ((i:Int)+(j:Int))=((i+j:Nat):Int) by omega,←hh];exact shr_runT _ _ (by omega) w,?_⟩
    rw [wrap_n (by omega)]
    refine ⟨by omega,ptrK_intro b o hp fun w G cx=>⟨l[h],by rw [Int.toNat_natCast];exact src.rd hp cx h hhl,fun w G cx=>(less_g _ _).use cx fun w cx=>⟨_,rfl,R1,Φ1,inferInstance,cx,Br.intro (fun hc=>?_) (fun hc=>?_)⟩⟩⟩
    · have hc:=of_decide_eq_true hc
      refine ⟨by unfold I64;omega,R1,Φ1,j - (h+1),inferInstance,fun w G c=>c,⟨h+1,j,by omega,rfl,by omega,hj,fun a ha h1=>?_,hhi,rfl,rfl,rfl⟩,by omega⟩
      rcases Nat.lt_or_ge a h with h2|h2
      · have:=hs a h ha hhl h2
        omega
      · have:a=h:=by omega
        subst this;exact hc
    · have hc:=of_decide_eq_false hc
      refine ⟨R1,Φ1,h - i,inferInstance,fun w G c=>c,⟨i,h,rfl,rfl,by omega,by omega,hlo,fun a ha h1=>?_,rfl,rfl,rfl⟩,by omega⟩
      rcases Nat.lt_or_ge h a with h2|h2
      · have:=hs h a hhl ha h2
        omega
      · have:a=h:=by omega
        subst this;omega
  · have hge:i=j:=by have:=of_decide_eq_false hge;omega
    subst hge
    have hmem:(t∈l) ↔ ∃ h:i<l.length,l[i]=t:=by
      refine ⟨fun hm=>?_,fun ⟨h,e⟩=>e ▸ List.getElem_mem h⟩
      obtain ⟨a,ha,rfl⟩:=List.getElem_of_mem hm
      rcases Nat.lt_trichotomy a i with h1|h1|h1
      · exact absurd (hlo a ha h1) (Int.lt_irrefl _)
      · subst h1;exact ⟨ha,rfl⟩
      · have:=hs i a (by omega) ha h1
        have:=hhi i (by omega) (Nat.le_refl _)
        omega
    have hcell:∀ {b o:Nat} {c:Bool},(decide ((i:Int)<(l.length:Int))&&c)=true→((decide ((i:Int)<(l.length:Int))&&c)=true→p=some ⟨b,o,none⟩)→w.cell? ⟨b,o+((i:Nat):Int).toNat,none⟩=some (.int .i64 ((l[i]?).getD 0)):=fun {b o c} h hb=>by
      have hl:i<l.length:=by have:=of_decide_eq_true (Bool.and_eq_true_iff.1 h).1;omega
      rw [Int.toNat_natCast,List.getElem?_eq_getElem hl]
      exact src.rd (hb h) cx i hl
    have hcell0:∀ {b o:Nat},decide ((i:Int)<(l.length:Int))=true→(decide ((i:Int)<(l.length:Int))=true→p=some ⟨b,o,none⟩)→w.cell? ⟨b,o+((i:Nat):Int).toNat,none⟩=some (.int .i64 ((l[i]?).getD 0)):=fun {b o} h hb=>hcell (c:=true) (by rw [h];rfl) (fun _=>hb h)
    refine ⟨fun h=>by have:=of_decide_eq_true h;omega,ptrK_of (fun h=>src.ptr (by have:=of_decide_eq_true h;omega)) fun b o hb=>⟨(l[i]?).getD 0,fun h=>hcell0 h hb,fun h=>by have:=of_decide_eq_true (Bool.and_eq_true_iff.1 h).1;omega,ptrK_of (fun h=>src.ptr (by have:=of_decide_eq_true (Bool.and_eq_true_iff.1 h).1;omega)) fun b2 o2 hb2=>⟨(l[i]?).getD 0,fun h=>hcell h hb2,false,fun _ w e=>(sNaN_q _).at e,false,fun h=>absurd h (by simp),fun w G cx=>⟨((i:Nat):Int),?_,cx.left⟩⟩⟩⟩
    have:(decide ((i:Int)<(l.length:Int))&&(decide ((l[i]?).getD 0=t)||false&&false))=decide (t∈l):=by
      rcases Nat.lt_or_ge i l.length with hl|hl
      · rw [List.getElem?_eq_getElem hl,decide_eq_true (p:=(i:Int)<(l.length:Int)) (by omega),Bool.and_false,Bool.or_false,Bool.true_and]
        exact decide_eq_decide.2 ⟨fun h=>hmem.2 ⟨hl,h⟩,fun h=>(hmem.1 h).2⟩
      · rw [decide_eq_false (p:=(i:Int)<(l.length:Int)) (by omega),Bool.false_and]
        exact (decide_eq_false fun h=>by have:=(hmem.1 h).1;omega).symm
    rw [this]
theorem Has_q [Stable Φ] (hq:SkQ q st) (hI:SkI st) {n:Nat} (hs:SkS st n) (hn:n≤400000) {b:Int}:GivesQ (SkO q st) Φ Tryz.prog F.sink_Sink_Has #[snk q,.int .i64 b] (.bool (hasK st b)) :=
  gives_q (Bsink_Sink_Has_run q.sb 0 b) fun W R=>fun w G cx=>⟨_,_,_,sk_cell (i:=2) cx rfl,fun w G cx =>
    (BinS_src (S:=(SkO q st++R)++G) (srcz_bats (Φ:=Φ) hq).app.app hI.asc (by have:=hs.bats;omega) b cx).mono fun e w' ⟨n,he,cx⟩=>⟨n,_,he,_,_,inferInstance,cx,fun w G cx=>⟨rfl,cx.left⟩⟩⟩
end
end Go.Proofs.YtfccagphnfceiaaGreatDoor
end

section
namespace Go.Proofs
open Go.Shelf
def Tryz.lays169_ren:Go.Shelf.Ren:=⟨fun|169=>144|n=>n,fun|70=>163|9=>9|0=>0|72=>165|37=>129|127=>197|3=>3|5=>5|n=>n,fun|n=>n⟩
theorem Tryz.lays169:Go.Proofs.Lays.n169 Tryz.prog Tryz.lays169_ren:={
  mixed:=by kernel_rfl
  f169:=Tryz.func144.trans (congrArg some (by kernel_rfl))
  t0:=Tryz.underlying0
  a0:=Tryz.isAgg0
  z0:=Tryz.sizeOf0
  v0:=Tryz.zeroValue0
  t3:=Tryz.underlying3
  a3:=Tryz.isAgg3
  z3:=Tryz.sizeOf3
  v3:=Tryz.zeroValue3
  t9:=Tryz.underlying9
  a9:=Tryz.isAgg9
  z9:=Tryz.sizeOf9
  v9:=Tryz.zeroValue9
  t37:=Tryz.underlying129
  a37:=Tryz.isAgg129
  z37:=Tryz.sizeOf129
  v37:=Tryz.zeroValue129
  t70:=Tryz.underlying163
  a70:=Tryz.isAgg163
  z70:=Tryz.sizeOf163
  v70:=Tryz.zeroValue163
  t72:=Tryz.underlying165
  a72:=Tryz.isAgg165
  z72:=Tryz.sizeOf165
  v72:=Tryz.zeroValue165
  t127:=Tryz.underlying197
  a127:=Tryz.isAgg197
  z127:=Tryz.sizeOf197
  v127:=Tryz.zeroValue197 }
theorem Tryz.Builder_Extra_169:Builder.Extra Tryz.prog Tryz.lays169_ren:={
  sizeBuilder:=by kernel_rfl
  liesBuilder:=by kernel_rfl
  t5:=Tryz.underlying5
  a5:=Tryz.isAgg5
  z5:=Tryz.sizeOf5
  v5:=Tryz.zeroValue5
  infoByte:=by kernel_rfl
  cellsByte:=by kernel_rfl
  sizeByte:=by kernel_rfl
  neB5:=by decide }
def Tryz.lays137_ren:Go.Shelf.Ren:=⟨fun|137=>195|217=>208|266=>216|n=>n,fun|9=>9|5=>5|3=>3|n=>n,fun|n=>n⟩
theorem Tryz.lays137:Go.Proofs.Lays.n137 Tryz.prog Tryz.lays137_ren:={
  mixed:=by kernel_rfl
  f137:=Tryz.func195.trans (congrArg some (by kernel_rfl))
  f217:=Tryz.func208.trans (congrArg some (by kernel_rfl))
  f266:=Tryz.func216.trans (congrArg some (by kernel_rfl))
  t3:=Tryz.underlying3
  a3:=Tryz.isAgg3
  z3:=Tryz.sizeOf3
  v3:=Tryz.zeroValue3
  t5:=Tryz.underlying5
  a5:=Tryz.isAgg5
  z5:=Tryz.sizeOf5
  v5:=Tryz.zeroValue5
  t9:=Tryz.underlying9
  a9:=Tryz.isAgg9
  z9:=Tryz.sizeOf9
  v9:=Tryz.zeroValue9 }
def Tryz.lays103_ren:Go.Shelf.Ren:=⟨fun|103=>197|210=>211|206=>222|n=>n,fun|9=>9|4=>4|24=>103|3=>3|n=>n,fun|n=>n⟩
theorem Tryz.lays103:Go.Proofs.Lays.n103 Tryz.prog Tryz.lays103_ren:={
  mixed:=by kernel_rfl
  f103:=Tryz.func197.trans (congrArg some (by kernel_rfl))
  f206:=Tryz.func222.trans (congrArg some (by kernel_rfl))
  f210:=Tryz.func211.trans (congrArg some (by kernel_rfl))
  t3:=Tryz.underlying3
  a3:=Tryz.isAgg3
  z3:=Tryz.sizeOf3
  v3:=Tryz.zeroValue3
  t4:=Tryz.underlying4
  a4:=Tryz.isAgg4
  z4:=Tryz.sizeOf4
  v4:=Tryz.zeroValue4
  t9:=Tryz.underlying9
  a9:=Tryz.isAgg9
  z9:=Tryz.sizeOf9
  v9:=Tryz.zeroValue9
  t24:=Tryz.underlying103
  a24:=Tryz.isAgg103
  z24:=Tryz.sizeOf103
  v24:=Tryz.zeroValue103 }
def Tryz.laysM171_ren:Go.Shelf.Ren:=⟨fun|171=>138|243=>179|246=>200|283=>212|284=>213|285=>214|286=>215|129=>224|317=>223|318=>225|319=>226|320=>227|337=>231|338=>232|n=>n,fun|3=>3|9=>9|2=>2|4=>4|171=>215|0=>0|53=>216|37=>129|5=>5|173=>219|212=>229|51=>230|20=>20|213=>231|46=>122|232=>243|233=>244|n=>n,fun|17=>1|18=>5|19=>6|n=>n⟩
theorem Tryz.laysM171:Go.Proofs.LaysM.n171 Tryz.prog Tryz.laysM171_ren:={
  mixed:=by kernel_rfl
  f129:=Tryz.func224.trans (congrArg some (by kernel_rfl))
  f171:=Tryz.func138.trans (congrArg some (by kernel_rfl))
  f243:=Tryz.func179.trans (congrArg some (by kernel_rfl))
  f246:=Tryz.func200.trans (congrArg some (by kernel_rfl))
  f283:=Tryz.func212.trans (congrArg some (by kernel_rfl))
  f284:=Tryz.func213.trans (congrArg some (by kernel_rfl))
  f285:=Tryz.func214.trans (congrArg some (by kernel_rfl))
  f286:=Tryz.func215.trans (congrArg some (by kernel_rfl))
  f317:=Tryz.func223.trans (congrArg some (by kernel_rfl))
  f318:=Tryz.func225.trans (congrArg some (by kernel_rfl))
  f319:=Tryz.func226.trans (congrArg some (by kernel_rfl))
  f320:=Tryz.func227.trans (congrArg some (by kernel_rfl))
  f337:=Tryz.func231.trans (congrArg some (by kernel_rfl))
  f338:=Tryz.func232.trans (congrArg some (by kernel_rfl))
  t0:=Tryz.underlying0
  a0:=Tryz.isAgg0
  z0:=Tryz.sizeOf0
  v0:=Tryz.zeroValue0
  t2:=Tryz.underlying2
  a2:=Tryz.isAgg2
  z2:=Tryz.sizeOf2
  v2:=Tryz.zeroValue2
  t3:=Tryz.underlying3
  a3:=Tryz.isAgg3
  z3:=Tryz.sizeOf3
  v3:=Tryz.zeroValue3
  t4:=Tryz.underlying4
  a4:=Tryz.isAgg4
  z4:=Tryz.sizeOf4
  v4:=Tryz.zeroValue4
  t5:=Tryz.underlying5
  a5:=Tryz.isAgg5
  z5:=Tryz.sizeOf5
  v5:=Tryz.zeroValue5
  t9:=Tryz.underlying9
  a9:=Tryz.isAgg9
  z9:=Tryz.sizeOf9
  v9:=Tryz.zeroValue9
  t20:=Tryz.underlying20
  a20:=Tryz.isAgg20
  z20:=Tryz.sizeOf20
  v20:=Tryz.zeroValue20
  t37:=Tryz.underlying129
  a37:=Tryz.isAgg129
  z37:=Tryz.sizeOf129
  v37:=Tryz.zeroValue129
  t46:=Tryz.underlying122
  a46:=Tryz.isAgg122
  z46:=Tryz.sizeOf122
  v46:=Tryz.zeroValue122
  t51:=Tryz.underlying230
  a51:=Tryz.isAgg230
  z51:=Tryz.sizeOf230
  v51:=Tryz.zeroValue230
  t53:=Tryz.underlying216
  a53:=Tryz.isAgg216
  z53:=Tryz.sizeOf216
  v53:=Tryz.zeroValue216
  t171:=Tryz.underlying215
  a171:=Tryz.isAgg215
  z171:=Tryz.sizeOf215
  v171:=Tryz.zeroValue215
  t173:=Tryz.underlying219
  a173:=Tryz.isAgg219
  z173:=Tryz.sizeOf219
  v173:=Tryz.zeroValue219
  t212:=Tryz.underlying229
  a212:=Tryz.isAgg229
  z212:=Tryz.sizeOf229
  v212:=Tryz.zeroValue229
  t213:=Tryz.underlying231
  a213:=Tryz.isAgg231
  z213:=Tryz.sizeOf231
  t232:=Tryz.underlying243
  a232:=Tryz.isAgg243
  z232:=Tryz.sizeOf243
  v232:=Tryz.zeroValue243
  t233:=Tryz.underlying244
  a233:=Tryz.isAgg244
  z233:=Tryz.sizeOf244
  v233:=Tryz.zeroValue244
  g17:=by kernel_rfl
  g18:=by kernel_rfl
  g19:=by kernel_rfl
  i0:=by kernel_rfl
  i2:=by kernel_rfl
  i3:=by kernel_rfl
  i4:=by kernel_rfl
  i5:=by kernel_rfl
  i9:=by kernel_rfl
  i20:=by kernel_rfl
  i37:=by kernel_rfl
  i46:=by kernel_rfl
  i51:=by kernel_rfl
  i53:=by kernel_rfl
  i171:=by kernel_rfl
  i173:=by kernel_rfl
  i212:=by kernel_rfl
  i232:=by kernel_rfl
  i233:=by kernel_rfl
  m17:=by kernel_rfl
  m18:=by kernel_rfl
  m19:=by kernel_rfl }
def Tryz.lays171_ren:Go.Shelf.Ren:=⟨fun|171=>138|243=>179|246=>200|283=>212|284=>213|285=>214|286=>215|129=>224|317=>223|318=>225|319=>226|320=>227|337=>231|338=>232|n=>n,fun|3=>3|9=>9|2=>2|4=>4|171=>215|0=>0|53=>216|37=>129|5=>5|173=>219|212=>229|51=>230|20=>20|213=>231|46=>122|232=>243|233=>244|n=>n,fun|17=>1|18=>5|19=>6|n=>n⟩
theorem Tryz.lays171:Go.Proofs.Lays.n171 Tryz.prog Tryz.lays171_ren:={
  mixed:=by kernel_rfl
  f129:=Tryz.func224.trans (congrArg some (by kernel_rfl))
  f171:=Tryz.func138.trans (congrArg some (by kernel_rfl))
  f243:=Tryz.func179.trans (congrArg some (by kernel_rfl))
  f246:=Tryz.func200.trans (congrArg some (by kernel_rfl))
  f283:=Tryz.func212.trans (congrArg some (by kernel_rfl))
  f284:=Tryz.func213.trans (congrArg some (by kernel_rfl))
  f285:=Tryz.func214.trans (congrArg some (by kernel_rfl))
  f286:=Tryz.func215.trans (congrArg some (by kernel_rfl))
  f317:=Tryz.func223.trans (congrArg some (by kernel_rfl))
  f318:=Tryz.func225.trans (congrArg some (by kernel_rfl))
  f319:=Tryz.func226.trans (congrArg some (by kernel_rfl))
  f320:=Tryz.func227.trans (congrArg some (by kernel_rfl))
  f337:=Tryz.func231.trans (congrArg some (by kernel_rfl))
  f338:=Tryz.func232.trans (congrArg some (by kernel_rfl))
  t0:=Tryz.underlying0
  a0:=Tryz.isAgg0
  z0:=Tryz.sizeOf0
  v0:=Tryz.zeroValue0
  t2:=Tryz.underlying2
  a2:=Tryz.isAgg2
  z2:=Tryz.sizeOf2
  v2:=Tryz.zeroValue2
  t3:=Tryz.underlying3
  a3:=Tryz.isAgg3
  z3:=Tryz.sizeOf3
  v3:=Tryz.zeroValue3
  t4:=Tryz.underlying4
  a4:=Tryz.isAgg4
  z4:=Tryz.sizeOf4
  v4:=Tryz.zeroValue4
  t5:=Tryz.underlying5
  a5:=Tryz.isAgg5
  z5:=Tryz.sizeOf5
  v5:=Tryz.zeroValue5
  t9:=Tryz.underlying9
  a9:=Tryz.isAgg9
  z9:=Tryz.sizeOf9
  v9:=Tryz.zeroValue9
  t20:=Tryz.underlying20
  a20:=Tryz.isAgg20
  z20:=Tryz.sizeOf20
  v20:=Tryz.zeroValue20
  t37:=Tryz.underlying129
  a37:=Tryz.isAgg129
  z37:=Tryz.sizeOf129
  v37:=Tryz.zeroValue129
  t46:=Tryz.underlying122
  a46:=Tryz.isAgg122
  z46:=Tryz.sizeOf122
  v46:=Tryz.zeroValue122
  t51:=Tryz.underlying230
  a51:=Tryz.isAgg230
  z51:=Tryz.sizeOf230
  v51:=Tryz.zeroValue230
  t53:=Tryz.underlying216
  a53:=Tryz.isAgg216
  z53:=Tryz.sizeOf216
  v53:=Tryz.zeroValue216
  t171:=Tryz.underlying215
  a171:=Tryz.isAgg215
  z171:=Tryz.sizeOf215
  v171:=Tryz.zeroValue215
  t173:=Tryz.underlying219
  a173:=Tryz.isAgg219
  z173:=Tryz.sizeOf219
  v173:=Tryz.zeroValue219
  t212:=Tryz.underlying229
  a212:=Tryz.isAgg229
  z212:=Tryz.sizeOf229
  v212:=Tryz.zeroValue229
  t213:=Tryz.underlying231
  a213:=Tryz.isAgg231
  z213:=Tryz.sizeOf231
  t232:=Tryz.underlying243
  a232:=Tryz.isAgg243
  z232:=Tryz.sizeOf243
  v232:=Tryz.zeroValue243
  t233:=Tryz.underlying244
  a233:=Tryz.isAgg244
  z233:=Tryz.sizeOf244
  v233:=Tryz.zeroValue244
  g17:=by kernel_rfl
  g18:=by kernel_rfl
  g19:=by kernel_rfl }
def Tryz.laysC172_ren:Go.Shelf.Ren:=⟨fun|172=>196|244=>209|245=>210|247=>217|279=>218|280=>219|281=>220|282=>221|287=>228|316=>229|171=>138|205=>230|321=>233|322=>234|243=>179|246=>200|283=>212|284=>213|285=>214|286=>215|129=>224|317=>223|318=>225|319=>226|320=>227|337=>231|338=>232|n=>n,fun|9=>9|3=>3|75=>167|76=>168|4=>4|5=>5|167=>221|37=>129|0=>0|85=>222|2=>2|168=>224|53=>216|175=>233|46=>122|210=>236|127=>197|145=>242|143=>240|21=>21|171=>215|173=>219|212=>229|51=>230|20=>20|213=>231|232=>243|233=>244|80=>48|n=>n,fun|15=>3|16=>4|17=>1|18=>5|19=>6|n=>n⟩
theorem Tryz.laysC172:Go.Proofs.LaysC.n172 Tryz.prog Tryz.laysC172_ren:={
  mixed:=by kernel_rfl
  f129:=Tryz.func224.trans (congrArg some (by kernel_rfl))
  f171:=Tryz.func138.trans (congrArg some (by kernel_rfl))
  f172:=Tryz.func196.trans (congrArg some (by kernel_rfl))
  f205:=Tryz.func230.trans (congrArg some (by kernel_rfl))
  f243:=Tryz.func179.trans (congrArg some (by kernel_rfl))
  f244:=Tryz.func209.trans (congrArg some (by kernel_rfl))
  f245:=Tryz.func210.trans (congrArg some (by kernel_rfl))
  f246:=Tryz.func200.trans (congrArg some (by kernel_rfl))
  f247:=Tryz.func217.trans (congrArg some (by kernel_rfl))
  f279:=Tryz.func218.trans (congrArg some (by kernel_rfl))
  f280:=Tryz.func219.trans (congrArg some (by kernel_rfl))
  f281:=Tryz.func220.trans (congrArg some (by kernel_rfl))
  f282:=Tryz.func221.trans (congrArg some (by kernel_rfl))
  f283:=Tryz.func212.trans (congrArg some (by kernel_rfl))
  f284:=Tryz.func213.trans (congrArg some (by kernel_rfl))
  f285:=Tryz.func214.trans (congrArg some (by kernel_rfl))
  f286:=Tryz.func215.trans (congrArg some (by kernel_rfl))
  f287:=Tryz.func228.trans (congrArg some (by kernel_rfl))
  f316:=Tryz.func229.trans (congrArg some (by kernel_rfl))
  f317:=Tryz.func223.trans (congrArg some (by kernel_rfl))
  f318:=Tryz.func225.trans (congrArg some (by kernel_rfl))
  f319:=Tryz.func226.trans (congrArg some (by kernel_rfl))
  f320:=Tryz.func227.trans (congrArg some (by kernel_rfl))
  f321:=Tryz.func233.trans (congrArg some (by kernel_rfl))
  f322:=Tryz.func234.trans (congrArg some (by kernel_rfl))
  f337:=Tryz.func231.trans (congrArg some (by kernel_rfl))
  f338:=Tryz.func232.trans (congrArg some (by kernel_rfl))
  t0:=Tryz.underlying0
  a0:=Tryz.isAgg0
  z0:=Tryz.sizeOf0
  v0:=Tryz.zeroValue0
  t2:=Tryz.underlying2
  a2:=Tryz.isAgg2
  z2:=Tryz.sizeOf2
  v2:=Tryz.zeroValue2
  t3:=Tryz.underlying3
  a3:=Tryz.isAgg3
  z3:=Tryz.sizeOf3
  v3:=Tryz.zeroValue3
  t4:=Tryz.underlying4
  a4:=Tryz.isAgg4
  z4:=Tryz.sizeOf4
  v4:=Tryz.zeroValue4
  t5:=Tryz.underlying5
  a5:=Tryz.isAgg5
  z5:=Tryz.sizeOf5
  v5:=Tryz.zeroValue5
  t9:=Tryz.underlying9
  a9:=Tryz.isAgg9
  z9:=Tryz.sizeOf9
  v9:=Tryz.zeroValue9
  t20:=Tryz.underlying20
  a20:=Tryz.isAgg20
  z20:=Tryz.sizeOf20
  v20:=Tryz.zeroValue20
  t21:=Tryz.underlying21
  a21:=Tryz.isAgg21
  z21:=Tryz.sizeOf21
  v21:=Tryz.zeroValue21
  t37:=Tryz.underlying129
  a37:=Tryz.isAgg129
  z37:=Tryz.sizeOf129
  v37:=Tryz.zeroValue129
  t46:=Tryz.underlying122
  a46:=Tryz.isAgg122
  z46:=Tryz.sizeOf122
  v46:=Tryz.zeroValue122
  t51:=Tryz.underlying230
  a51:=Tryz.isAgg230
  z51:=Tryz.sizeOf230
  v51:=Tryz.zeroValue230
  t53:=Tryz.underlying216
  a53:=Tryz.isAgg216
  z53:=Tryz.sizeOf216
  v53:=Tryz.zeroValue216
  t75:=Tryz.underlying167
  a75:=Tryz.isAgg167
  z75:=Tryz.sizeOf167
  v75:=Tryz.zeroValue167
  t76:=Tryz.underlying168
  a76:=Tryz.isAgg168
  z76:=Tryz.sizeOf168
  v76:=Tryz.zeroValue168
  t85:=Tryz.underlying222
  a85:=Tryz.isAgg222
  z85:=Tryz.sizeOf222
  v85:=Tryz.zeroValue222
  t127:=Tryz.underlying197
  a127:=Tryz.isAgg197
  z127:=Tryz.sizeOf197
  v127:=Tryz.zeroValue197
  t143:=Tryz.underlying240
  a143:=Tryz.isAgg240
  z143:=Tryz.sizeOf240
  v143:=Tryz.zeroValue240
  t145:=Tryz.underlying242
  a145:=Tryz.isAgg242
  z145:=Tryz.sizeOf242
  v145:=Tryz.zeroValue242
  t167:=Tryz.underlying221
  a167:=Tryz.isAgg221
  z167:=Tryz.sizeOf221
  v167:=Tryz.zeroValue221
  t168:=Tryz.underlying224
  a168:=Tryz.isAgg224
  z168:=Tryz.sizeOf224
  v168:=Tryz.zeroValue224
  t171:=Tryz.underlying215
  a171:=Tryz.isAgg215
  z171:=Tryz.sizeOf215
  v171:=Tryz.zeroValue215
  t173:=Tryz.underlying219
  a173:=Tryz.isAgg219
  z173:=Tryz.sizeOf219
  v173:=Tryz.zeroValue219
  t175:=Tryz.underlying233
  a175:=Tryz.isAgg233
  z175:=Tryz.sizeOf233
  v175:=Tryz.zeroValue233
  t210:=Tryz.underlying236
  a210:=Tryz.isAgg236
  z210:=Tryz.sizeOf236
  v210:=Tryz.zeroValue236
  t212:=Tryz.underlying229
  a212:=Tryz.isAgg229
  z212:=Tryz.sizeOf229
  v212:=Tryz.zeroValue229
  t213:=Tryz.underlying231
  a213:=Tryz.isAgg231
  z213:=Tryz.sizeOf231
  t232:=Tryz.underlying243
  a232:=Tryz.isAgg243
  z232:=Tryz.sizeOf243
  v232:=Tryz.zeroValue243
  t233:=Tryz.underlying244
  a233:=Tryz.isAgg244
  z233:=Tryz.sizeOf244
  v233:=Tryz.zeroValue244
  g15:=by kernel_rfl
  g16:=by kernel_rfl
  g17:=by kernel_rfl
  g18:=by kernel_rfl
  g19:=by kernel_rfl
  t80:=Tryz.underlying48
  a80:=Tryz.isAgg48
  z80:=Tryz.sizeOf48
  v80:=Tryz.zeroValue48
  i0:=by kernel_rfl
  i2:=by kernel_rfl
  i3:=by kernel_rfl
  i4:=by kernel_rfl
  i5:=by kernel_rfl
  i9:=by kernel_rfl
  i20:=by kernel_rfl
  i21:=by kernel_rfl
  i37:=by kernel_rfl
  i46:=by kernel_rfl
  i51:=by kernel_rfl
  i53:=by kernel_rfl
  i75:=by kernel_rfl
  i76:=by kernel_rfl
  i80:=by kernel_rfl
  i85:=by kernel_rfl
  i127:=by kernel_rfl
  i143:=by kernel_rfl
  i145:=by kernel_rfl
  i167:=by kernel_rfl
  i168:=by kernel_rfl
  i171:=by kernel_rfl
  i173:=by kernel_rfl
  i175:=by kernel_rfl
  i210:=by kernel_rfl
  i212:=by kernel_rfl
  i232:=by kernel_rfl
  i233:=by kernel_rfl
  m15:=by kernel_rfl
  m16:=by kernel_rfl
  m17:=by kernel_rfl
  m18:=by kernel_rfl
  m19:=by kernel_rfl
  c0:=by kernel_rfl
  c2:=by kernel_rfl
  c3:=by kernel_rfl
  c4:=by kernel_rfl
  c5:=by kernel_rfl
  c9:=by kernel_rfl
  c20:=by kernel_rfl
  c21:=by kernel_rfl
  c37:=by kernel_rfl
  c46:=by kernel_rfl
  c51:=by kernel_rfl
  c53:=by kernel_rfl
  c75:=by kernel_rfl
  c76:=by kernel_rfl
  c80:=by kernel_rfl
  c85:=by kernel_rfl
  c127:=by kernel_rfl
  c143:=by kernel_rfl
  c145:=by kernel_rfl
  c167:=by kernel_rfl
  c168:=by kernel_rfl
  c171:=by kernel_rfl
  c173:=by kernel_rfl
  c175:=by kernel_rfl
  c210:=by kernel_rfl
  c212:=by kernel_rfl
  c213:=by kernel_rfl
  c232:=by kernel_rfl
  c233:=by kernel_rfl }
end Go.Proofs
end

section
namespace Go.Proofs.YtfccagphnfceiaaGreatDoor
open Go.Vc
abbrev BdT (b:Nat) (l:List UInt8) (R:List Own):Prop:=Bd 165 5 b l R
theorem bd_info:∃ j,Tryz.prog.info? 165=some j∧j.size=2:=by
  have h:(Tryz.prog.info? 165).map (·.size)=some 2:=by kernel_rfl
  exact Option.map_eq_some_iff.1 h
set_option maxHeartbeats 1000000 in
set_option maxRecDepth 100000 in
theorem copyCheck_used (b:Nat) (w:World) (h0:w.cell? ⟨b,0,none⟩=some (.pointer (some ⟨b,0,none⟩))) :
    Calls Tryz.prog 180 #[.pointer (some ⟨b,0,none⟩)] w fun e w'=>e=.returned (.tuple #[])∧w'=w:=by
  obtain ⟨j,hj,_⟩:=bd_info
  go_enter Tryz.func180,Tryz.ntmps180
  go_wp2
  rw [Lib.run_neq_ptr_same w _ Tryz.underlying163 hj]
  go_wp2
  go_end0
  exact ⟨rfl,rfl⟩
set_option maxHeartbeats 1000000 in
set_option maxRecDepth 100000 in
theorem copyCheck_fresh (b:Nat) (w:World) (h0:w.cell? ⟨b,0,none⟩=some (.pointer none)) (hsh:w.shape? b=some (165,2)) (hfz:w.frozen? ⟨b,0,none⟩=false) :
    Calls Tryz.prog 180 #[.pointer (some ⟨b,0,none⟩)] w fun e w'=>e=.returned (.tuple #[])∧w'=w.setCell ⟨b,0,none⟩ (.pointer (some ⟨b,0,none⟩)):=by
  obtain ⟨j,hj,hjs⟩:=bd_info
  go_enter Tryz.func180,Tryz.ntmps180
  go_wp2
  rw [Lib.run_to_unsafe w ⟨b,0,none⟩ Tryz.underlying163 Tryz.underlying208 hj (by rw [hjs];decide) hsh (Nat.zero_lt_succ 1)]
  simp only [Result.andThen]
  rw [Oper.upon_value]
  go_wp2
  rw [run_callFunc_extern Tryz.func201 (by kernel_rfl) (by kernel_rfl) (by kernel_rfl) (e:=Extern.AbiNoEscape.same) (by kernel_rfl)]
  rw [Lib.run_noEscape]
  simp only [Result.andThen]
  rw [Oper.upon_value]
  go_wp2
  rw [Lib.run_from_unsafe w ⟨b,0,none⟩ Tryz.underlying208 Tryz.underlying163 hj hsh (by kernel_rfl)]
  simp only [Result.andThen]
  rw [Oper.upon_value]
  go_wp2
  go_end0
  exact ⟨rfl,rfl⟩
theorem copyCheck_use {W w:World} {S:List Own} {Φ:PW} [Stable Φ] {b:Nat} {pa v:Value} (hp:pa=.pointer none∨pa=.pointer (some ⟨b,0,none⟩)) (c:Ctx W w (.blk b [pa,v] 165 :: S) Φ) {K:Ending→World→Prop}
    (hk:∀ w',Ctx W w' (.blk b [.pointer (some ⟨b,0,none⟩),v] 165 :: S) Φ→K (.returned (.tuple #[])) w'):Calls Tryz.prog F.strings_Builder_copyCheck #[.pointer (some ⟨b,0,none⟩)] w K:=by
  have hb:w.heap[b]? = some (.cells #[pa,v] 165 (0,0)):=c.blk 0 rfl
  rcases hp with rfl|rfl
  · exact (copyCheck_fresh b w (c.get 0 rfl rfl) (by simp [World.shape?,hb]) (by simp [World.frozen?,hb])).mono fun e w' ⟨he,hw⟩=>by
      subst he
      exact hk w' (c.put 0 hw rfl)
  · exact (copyCheck_used b w (c.get 0 rfl rfl)).mono fun e w' ⟨he,hw⟩=>by
      subst he;subst hw
      exact hk w' c
theorem byte_info:∃ i,Tryz.prog.info? 5=some i∧i.zero=some (.int .u8 0)∧i.size=1∧i.bytes=1:=by
  have h:(Tryz.prog.info? 5).map (fun i=>(i.zero,i.size,i.bytes))=some (some (.int .u8 0),1,1):=by kernel_rfl
  obtain ⟨i,hi,he⟩:=Option.map_eq_some_iff.1 h
  simp only [Prod.mk.injEq] at he
  exact ⟨i,hi,he⟩
theorem strCells_bytes (s:ByteArray):Lib.strCells s=Lib.byteCells s.data.toList:=rfl
theorem WriteString_use {W w:World} {S R:List Own} {Φ:PW} [Stable Φ] {b:Nat} {l:List UInt8} (s:ByteArray) (h:BdT b l R) (c:Ctx W w (R++S) Φ) (hlen:l.length+s.size≤100000000000) {K:Ending→World→Prop}
    (hk:∀ R' w',BdT b (l++s.data.toList) R'→Ctx W w' (R'++S) Φ→K (.returned (.tuple #[.int .i64 s.size,.nilIface])) w'):Calls Tryz.prog F.strings_Builder_WriteString #[.pointer (some ⟨b,0,none⟩),.string s] w K:=by
  obtain ⟨pa,p,cap,hpa,rfl⟩:=h
  obtain ⟨i,hi,hz,hsz,hby⟩:=byte_info
  refine (Bstrings_Builder_WriteString_run b 0 s (J:=fun u w'=>K (.returned u) w') c ?_).mono fun e w' ⟨v,he,hj⟩=>by rw [he];exact hj
  refine fun w G c=>copyCheck_use hpa c fun w c=>⟨rfl,[.blk b [.pointer (some ⟨b,0,none⟩),.slice p l.length cap] 165,.buf p l.length cap (Lib.byteCells l) 5 1]++S,Φ,inferInstance,c,fun w G c=>⟨p,l.length,cap,c.get 0 rfl rfl,fun w G c=>?_⟩⟩
  obtain ⟨p',cap',w',hrun,c'⟩:=Ctx.appStr (P:=Tryz.prog) (t:=129) (u:=9) (ty:=129) (kb:=#[false,false]) (c.swap) Tryz.underlying129 Tryz.underlying9 hi hz hsz hby s (by omega) (by unfold maxLen;omega)
  refine ⟨p',_,cap',w',hrun,[.blk b [.pointer (some ⟨b,0,none⟩),.slice p l.length cap] 165,.buf p' (l.length+s.size) cap' (Lib.byteCells l++Lib.strCells s) 5 1]++S,Φ,inferInstance,c'.swap,fun w G c=>⟨c.can 0 rfl (by simp),fun w' hw'=>?_⟩⟩
  refine ⟨[.blk b [.pointer (some ⟨b,0,none⟩),.slice p' (l.length+s.size) cap'] 165,.buf p' (l.length+s.size) cap' (Lib.byteCells l++Lib.strCells s) 5 1]++S,Φ,inferInstance,c.put 0 hw' rfl,fun w G c=>hk [.blk b [.pointer (some ⟨b,0,none⟩),.slice p' (l.length+s.size) cap'] 165,.buf p' (l.length+s.size) cap' (Lib.byteCells l++Lib.strCells s) 5 1] w ⟨_,p',cap',.inr rfl,?_⟩ c.left⟩
  have hl:(l++s.data.toList).length=l.length+s.size:=by rw [List.length_append,Array.length_toList];rfl
  rw [hl,strCells_bytes,Lib.byteCells_append]
theorem String_use {W w:World} {S R:List Own} {Φ:PW} [Stable Φ] {b:Nat} {l:List UInt8} (h:BdT b l R) (c:Ctx W w (R++S) Φ) {K:Ending→World→Prop}
    (hk:∀ w',Ctx W w' S Φ→K (.returned (.string ⟨l.toArray⟩)) w'):Calls Tryz.prog F.strings_Builder_String #[.pointer (some ⟨b,0,none⟩)] w K :=
  Bd.string Tryz.lays169 Tryz.Builder_Extra_169 h c hk
end Go.Proofs.YtfccagphnfceiaaGreatDoor
end

section
namespace Go.Vc
theorem GivesIn.know {Φ:PW} {P:Program} {f:FuncId} {args:Array Value} {v:Value} {p:Prop} (hΦ:∀ M w,Φ M w→p) (h:p→GivesIn Φ P f args v):GivesIn Φ P f args v :=
  ⟨fun W w S c=>(h (hΦ _ _ c.phi)).go W w S c⟩
end Go.Vc
namespace Go.Proofs.YtfccagphnfceiaaGreatDoor
open Go.Vc
def numB (n:Int):ByteArray:=⟨(Lib.itoa n).toArray⟩
def intB (n:Int):ByteArray:=numB n++ByteArray.mk #[59]
def natB (n:Int):ByteArray:=if n<0 then ByteArray.mk #[] else intB n
def textB (s:ByteArray):ByteArray:=numB s.size++ByteArray.mk #[58]++s++ByteArray.mk #[44]
def valB (v:ValD):ByteArray:=intB v.kind++intB v.num++textB v.text
def valsL (r:List ValD):List UInt8:=r.flatMap fun v=>(valB v).data.toList
def rowL (r:List ValD):List UInt8:=(natB r.length).data.toList++valsL r
def rowB (r:List ValD):ByteArray:=⟨(rowL r).toArray⟩
theorem size_app (a b:ByteArray):(a++b).size=a.size+b.size:=ByteArray.size_append
theorem size_list (l:List UInt8):(ByteArray.mk l.toArray).size=l.length:=by simp [ByteArray.size]
theorem list_size (a:ByteArray):a.data.toList.length=a.size:=by rw [Array.length_toList];rfl
theorem nDigits_le:∀ (k u:Nat),u<10 ^ k→0<k→Lib.nDigits u≤k
  | 0,u,_,h=>by omega
  | k+1,u,h,_=>by
    by_cases h1:u<10
    · rw [Lib.nDigits_small h1];omega
    · rw [Lib.nDigits_big h1]
      have hk:0<k:=by
        rcases Nat.eq_zero_or_pos k with rfl|h2
        · simp at h;omega
        · exact h2
      have:=nDigits_le k (u / 10) (by rw [Nat.pow_succ] at h;omega) hk
      omega
theorem itoa_len {n:Int} (h:I64 n):1≤(Lib.itoa n).length∧(Lib.itoa n).length≤20:=by
  unfold I64 at h
  unfold Lib.itoa
  split
  · have h1:=nDigits_le 19 n.natAbs (by omega) (by decide)
    have h2:=Lib.nDigits_pos n.natAbs
    rw [List.length_cons,Lib.decDigits_length];omega
  · have h1:=nDigits_le 19 n.toNat (by omega) (by decide)
    have h2:=Lib.nDigits_pos n.toNat
    rw [Lib.decDigits_length];omega
theorem numB_size {n:Int} (h:I64 n):1≤(numB n).size∧(numB n).size≤20:=by
  unfold numB;rw [size_list];exact itoa_len h
theorem intB_size {n:Int} (h:I64 n):2≤(intB n).size∧(intB n).size≤21:=by
  have:=numB_size h
  have e:(ByteArray.mk #[59]).size=1:=rfl
  unfold intB;rw [size_app,e];omega
theorem natB_size {n:Int} (h:I64 n):(natB n).size≤21:=by
  unfold natB
  split
  · exact Nat.zero_le _
  · exact (intB_size h).2
theorem textB_size {s:ByteArray} (h:s.size≤9223372036854775807):(textB s).size≤s.size+22∧s.size+3≤(textB s).size:=by
  have:=numB_size (n:=s.size) (by unfold I64;omega)
  have e:(ByteArray.mk #[58]).size=1:=rfl
  have e2:(ByteArray.mk #[44]).size=1:=rfl
  unfold textB;rw [size_app,size_app,size_app,e,e2];omega
theorem valB_size {v:ValD} (h1:I64 v.kind) (h2:I64 v.num) (h:v.text.size≤9223372036854775807):(valB v).size≤v.text.size+64:=by
  have a:=intB_size h1
  have b:=intB_size h2
  have c:=textB_size h
  unfold valB;rw [size_app,size_app];omega
theorem valsL_app (a b:List ValD):valsL (a++b)=valsL a++valsL b:=by simp [valsL]
theorem valsL_one (v:ValD):valsL [v]=(valB v).data.toList:=by simp [valsL]
theorem valsL_len {m:Nat}:∀ {r:List ValD},(∀ v∈r,(I64 v.kind∧I64 v.num)∧v.text.size≤m)→m≤9223372036854775807→(valsL r).length≤r.length*(m+64)
  | [],_,_=>by simp [valsL]
  | v :: r,h,hm=>by
    have h1:=valsL_len (r:=r) (fun u hu=>h u (List.mem_cons_of_mem _ hu)) hm
    obtain ⟨⟨a,b⟩,c⟩:=h v List.mem_cons_self
    have h2:=valB_size a b (by omega)
    have e:valsL (v :: r)=(valB v).data.toList++valsL r:=by simp [valsL]
    rw [e,List.length_append,list_size,List.length_cons,Nat.add_mul]
    omega
theorem rowL_len {m:Nat} {r:List ValD} (h:∀ v∈r,(I64 v.kind∧I64 v.num)∧v.text.size≤m) (hm:m≤9223372036854775807) (hr:r.length≤1000000):(rowL r).length≤21+r.length*(m+64):=by
  have h1:=valsL_len h hm
  have h2:=natB_size (n:=(r.length:Int)) (by unfold I64;omega)
  unfold rowL;rw [List.length_append,list_size];omega
theorem rep_val {M:List Nat} {w:World} {cs:List Value} {v:ValD} (h:Gv.rep M w cs v):cs=[.int .i64 v.kind,.int .i64 v.num,.string v.text]∧I64 v.kind∧I64 v.num∧v.text.size≤maxLen:=by
  obtain ⟨_,_,rfl,⟨rfl,h1⟩,_,_,rfl,⟨rfl,h2⟩,rfl,h3⟩:=h
  exact ⟨rfl,h1,h2,h3⟩
theorem sl_i64 {M:List Nat} {w:World} {p:Option Addr} {l:List ValD} (h:Sl M w p l):∀ v∈l,(I64 v.kind∧I64 v.num)∧v.text.size≤maxLen:=by
  intro v hv
  obtain ⟨i,hi,rfl⟩:=List.getElem_of_mem hv
  obtain ⟨_,_,_,_,_,_,hr⟩:=h i hi
  obtain ⟨_,h1,h2,h3⟩:=rep_val hr
  exact ⟨⟨h1,h2⟩,h3⟩
abbrev tabN:String:=((Rows.commitAnywhereRow.laid.map Prod.fst).drop 2).headD default
abbrev TabI:PW:=Tab Tryz.prog tabN .u64 Lib.pow10Tab
theorem Itoa_in {Φ:PW} [Stable Φ] (hΦ:∀ M w,Φ M w→TabI M w) (n:Int) (h:I64 n):GivesIn Φ Tryz.prog F.strconv_Itoa #[.int .i64 n] (.string (numB n)) :=
  itoa_in (name:=tabN) (fun n h0 h1 w ht=>Any.strconv_Itoa Tryz.laysM171 n h0 h1 w ht) hΦ n h
theorem Itoa_small (i:Nat) (hi:i<100):Gives Tryz.prog F.strconv_Itoa #[.int .i64 i] (.string (numB i)) :=
  Quiet.gives ⟨fun w=>by
    have h:=Any.strconv_Itoa_small { Tryz.lays171 with } i hi w
    rw [←Lib.itoa_nonneg] at h
    exact h⟩
def Dec (Φ:PW) (n:Int):Prop:=(∀ M w,Φ M w→TabI M w)∧I64 n∨∃ i:Nat,i<100∧n=i
theorem Itoa_dec {Φ:PW} [Stable Φ] {n:Int} (h:Dec Φ n):GivesIn Φ Tryz.prog F.strconv_Itoa #[.int .i64 n] (.string (numB n)):=by
  rcases h with ⟨h1,h2⟩|⟨i,hi,rfl⟩
  · exact Itoa_in h1 n h2
  · exact (Itoa_small i hi).in
theorem Dec.i64 {Φ:PW} {n:Int} (h:Dec Φ n):I64 n:=by
  rcases h with ⟨_,h2⟩|⟨i,hi,rfl⟩
  · exact h2
  · unfold I64;omega
theorem Int_in {Φ:PW} [Stable Φ] {n:Int} (h:Dec Φ n):GivesIn Φ Tryz.prog F.wire_Int #[.int .i64 n] (.string (intB n)):=by
  refine gives_in (Bwire_Int_run n) fun W R=>?_
  have:=numB_size h.i64
  exact fun w G cx=>(Itoa_dec h).use cx fun w cx=>⟨_,rfl,R,Φ,inferInstance,cx,by show (numB n).size+1≤_;omega,fun w G cx=>⟨rfl,cx.left⟩⟩
theorem Num_in {Φ:PW} [Stable Φ] {n:Int} (h:Dec Φ n):GivesIn Φ Tryz.prog F.wire_Num #[.int .i64 n] (.string (natB n)):=by
  refine gives_in (Bwire_Num_run n) fun W R=>Br.intro (fun hn=>fun w G cx=>⟨?_,cx.left⟩) (fun hn=>fun w G cx=>(Int_in h).use cx fun w cx=>⟨_,rfl,R,Φ,inferInstance,cx,fun w G cx=>⟨?_,cx.left⟩⟩)
  · unfold natB;rw [if_pos (of_decide_eq_true hn)]
  · unfold natB;rw [if_neg (of_decide_eq_false hn)]
theorem Text_in {Φ:PW} [Stable Φ] {s:ByteArray} (h:Dec Φ s.size) (hs:s.size≤1000000000000000):GivesIn Φ Tryz.prog F.wire_Text #[.string s] (.string (textB s)):=by
  refine gives_in (Bwire_Text_run s) fun W R=>?_
  have h1:=numB_size h.i64
  have e:(ByteArray.mk #[58]).size=1:=rfl
  have e2:(ByteArray.mk #[44]).size=1:=rfl
  exact fun w G cx=>(Itoa_dec h).use cx fun w cx=>⟨_,rfl,R,Φ,inferInstance,cx,by show (numB s.size).size+1≤_;omega,by show (numB s.size++ByteArray.mk #[58]).size+s.size≤_;rw [size_app,e];omega,by show (numB s.size++ByteArray.mk #[58]++s).size+1≤_;rw [size_app,size_app,e];omega,fun w G cx=>⟨rfl,cx.left⟩⟩
theorem Bytes_in {Φ:PW} [Stable Φ] (v:ValD) (hΦ:∀ M w,Φ M w→TabI M w) (h1:I64 v.kind) (h2:I64 v.num) (hs:v.text.size≤1000000000000):GivesIn Φ Tryz.prog F.value_Bytes #[v.v] (.string (valB v)):=by
  refine gives_in (Bvalue_Bytes_run v.kind v.num v.text) fun W R=>?_
  have a:=intB_size h1
  have b:=intB_size h2
  have c:=textB_size (s:=v.text) (by omega)
  exact fun _=>⟨R,Φ,inferInstance,fun w G cx=>cx,fun w G cx=>(Int_in (.inl ⟨hΦ,h1⟩)).use cx fun w cx=>⟨_,rfl,R,Φ,inferInstance,cx,fun w G cx=>cx,fun w G cx=>(Int_in (.inl ⟨hΦ,h2⟩)).use cx fun w cx=>⟨_,rfl,R,Φ,inferInstance,cx,fun w G cx=>cx,by show (intB v.kind).size+(intB v.num).size≤_;omega,
    fun w G cx=>(Text_in (.inl ⟨hΦ,by unfold I64;omega⟩) (by omega)).use cx fun w cx=>⟨_,rfl,R,Φ,inferInstance,cx,fun w G cx=>cx,by show (intB v.kind++intB v.num).size+(textB v.text).size≤_;rw [size_app];omega,fun w G cx=>⟨rfl,cx.left⟩⟩⟩⟩⟩
theorem RowBytes_in {Φ:PW} [Stable Φ] (p:Option Addr) (cap:Nat) (r:List ValD) (hT:∀ M w,Φ M w→TabI M w) (hΦ:∀ M w,Φ M w→Sl M w p r) (hr:r.length≤1000000) (ht:∀ v∈r,v.text.size≤10000) :
    GivesIn Φ Tryz.prog F.value_RowBytes #[.slice p r.length cap] (.string (rowB r)):=by
  refine .there (fun M w h=>(hΦ M w h).there) fun hth=>.know (fun M w h=>sl_i64 (hΦ M w h)) fun hi=>?_
  have hv:∀ v∈r,(I64 v.kind∧I64 v.num)∧v.text.size≤10000:=fun v h=>⟨(hi v h).1,ht v h⟩
  have hL:=rowL_len hv (by decide) hr
  have hL:(rowL r).length≤20000000000:=by
    have:r.length*(10000+64)≤1000000*10064:=Nat.mul_le_mul hr (Nat.le_refl _)
    omega
  have hnat:(natB r.length).data.toList.length≤20000000000:=by unfold rowL at hL;rw [List.length_append] at hL;omega
  refine gives_in (Bvalue_RowBytes_run p r.length cap) fun W R=>?_
  refine fun b w G cx=>(Num_in (Φ:=Φ) (.inl ⟨hT,by unfold I64;omega⟩)).use cx fun w cx=>⟨_,rfl,.blk b [.pointer none,.slice none 0 0] 165 :: R,Φ,inferInstance,cx,fun w G cx=>?_⟩
  refine WriteString_use (natB r.length) Bd.nil (Bd.fresh cx) (by rw [←list_size];simp only [List.length_nil];omega) fun R1 w hB cx=>⟨_,_,rfl,R1++R,Φ,inferInstance,by rw [List.append_assoc];exact cx,?_⟩
  rw [List.nil_append] at hB
  clear cx
  refine exI_mk (fun iI R' Φ' k=>∃ (i:Nat) (Q:List Own),iI=i∧i≤r.length∧BdT b ((natB r.length).data.toList++valsL (r.take i)) Q∧R'=Q++R∧Φ'=Φ∧k=r.length - i) ⟨⟨_,Φ,_,inferInstance,fun w G cx=>cx,0,R1,rfl,Nat.zero_le _,by rw [List.take_zero,show valsL []=[] from rfl,List.append_nil];exact hB,rfl,rfl,rfl⟩,?_⟩
  rintro iI R2 Φ2 k _ ⟨i,Q,rfl,hi,hQ,rfl,rfl,rfl⟩
  refine Br.intro (fun hlt=>?_) (fun hge=>fun w G cx=>?_)
  · have hlt:i<r.length:=by have:=of_decide_eq_true hlt;omega
    obtain ⟨g,o,rfl⟩:=hth (by omega)
    obtain ⟨⟨h1,h2⟩,h3⟩:=hv r[i] (List.getElem_mem hlt)
    have hsz:=valB_size h1 h2 (by omega)
    have hlen:((natB r.length).data.toList++valsL (r.take (i+1))).length≤20000000000:=by
      have e:valsL r=valsL (r.take (i+1))++valsL (r.drop (i+1)):=by rw [←valsL_app,List.take_append_drop]
      unfold rowL at hL
      rw [e,List.length_append,List.length_append] at hL
      rw [List.length_append];omega
    have hstep:valsL (r.take (i+1))=valsL (r.take i)++(valB r[i]).data.toList:=by rw [List.take_succ_eq_append_getElem hlt,valsL_app,valsL_one]
    refine ⟨by omega,ptrK_intro g o rfl fun w G cx=>⟨r[i].kind,r[i].num,r[i].text,by rw [Int.toNat_natCast];exact sl_val (hΦ _ _ cx.phi) hlt,fun _ w G cx=>(Bytes_in (Φ:=Φ2) r[i] hT h1 h2 (by omega)).use cx fun w cx=>⟨_,rfl,Q++R,Φ2,inferInstance,cx,fun w G cx=>?_⟩⟩⟩
    refine WriteString_use (valB r[i]) hQ (cx.re (List.append_assoc _ _ _)) (by rw [hstep,←List.append_assoc,List.length_append,list_size] at hlen;omega) fun Q' w hQ' cx=>⟨_,_,rfl,Q'++R,Φ2,inferInstance,by rw [List.append_assoc];exact cx,by unfold I64;omega,_,Φ2,r.length - (i+1),inferInstance,fun w G cx=>cx,⟨i+1,Q',by omega,hlt,?_,rfl,rfl,rfl⟩,by omega⟩
    rw [hstep,←List.append_assoc];exact hQ'
  · have hge:i=r.length:=by have:=of_decide_eq_false hge;omega
    subst hge
    rw [List.take_length] at hQ
    exact String_use hQ (cx.re (List.append_assoc _ _ _)) fun w cx=>⟨_,rfl,R,Φ2,inferInstance,cx,fun w G cx=>⟨rfl,cx.left⟩⟩
end Go.Proofs.YtfccagphnfceiaaGreatDoor
end

