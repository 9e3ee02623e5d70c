/-
 Replica: the cells of entries and replicas;the walks of between,term,others.
-/
import Derived.Test.YtnlkemjhgdbfkaaGreatDoorCu6
import Derived.Lib.SliceRun
import Derived.Lib.ItoaNum
open Go.Proofs.Tryz
set_option linter.unusedVariables false
set_option linter.unusedSimpArgs false
section
namespace Go.Proofs.YtnlkemjhgdbfkaaGreatDoor
open Go.Vc
theorem gl{W w Q T G}{Φ:PW}(c:Ctx W w (Q++T++G) Φ):Ctx W w (Q++(T++G)) Φ:=c.re (bM _ _ _)
theorem gr{W w Q T G}{Φ:PW}(c:Ctx W w (Q++(T++G)) Φ):Ctx W w (Q++T++G) Φ:=c.re (bM _ _ _).symm
theorem mid{W w Q S a}{Φ:PW}[aB Φ](c:Ctx W w (a :: (Q++S)) Φ):Ctx W w (Q++a :: S) Φ:=c.perm List.perm_middle.symm
theorem front{W w Q S a}{Φ:PW}[aB Φ](c:Ctx W w (Q++a :: S) Φ):Ctx W w (a :: (Q++S)) Φ:=c.perm List.perm_middle
theorem sink{W w Q T G a}{Φ:PW}[aB Φ](c:Ctx W w (a :: (Q++T)++G) Φ):Ctx W w (Q++a :: T++G) Φ:=c.perm (List.Perm.append_right G List.perm_middle.symm)
theorem lift{W w Q T G a}{Φ:PW}[aB Φ](c:Ctx W w (Q++a :: T++G) Φ):Ctx W w (a :: (Q++T)++G) Φ:=c.perm (List.Perm.append_right G List.perm_middle)
theorem aG2{W w Q T G}{Φ:PW}[aB Φ](c:Ctx W w (Q++T++G) Φ):Ctx W w (Q++G) (λ_ _=>True):=(c.weak λ_ _ _=>trivial).sub (List.Sublist.append_right (List.sublist_append_left _ _) _)
def bD:List bH->List Value
 | []=>[]
 | x :: l=>.int .i64 x.term :: .string x.data :: bD l
def bH.Ok(x:bH):Prop:=bE x.term/\x.data.size<=maxLen
theorem YU:∀ l:List bH,(bD l).length=l.length*2
 | []=>rfl
 | x :: l=>by simp only [bD,List.length_cons,YU l];omega
theorem Q6:∀ a b:List bH,bD (a++b)=bD a++bD b
 | [],b=>rfl
 | x :: a,b=>by simp only [List.cons_append,bD,Q6 a b]
theorem a2c:∀ (l:List bH) (k:Nat),(bD l).drop (k*2)=bD (l.drop k)
 | l,0=>by simp
 | [],k+1=>by simp [bD]
 | x :: l,k+1=>by
  rw [show (k+1)*2=k*2+1+1 by omega];simp only [bD,List.drop_succ_cons];exact a2c l k
theorem a3X{l i}(h:i<l.length):((bD l).drop (i*2)).take 2=[.int .i64 l[i].term,.string l[i].data]:=by
 rw [a2c,List.drop_eq_getElem_cons h];rfl
theorem aG3{l i}(h:i<l.length):(bD l)[i*2]? = some (.int .i64 l[i].term):=by
 have h1:=a3X h;have:(((bD l).drop (i*2)).take 2)[0]? = some (.int .i64 l[i].term):=by rw [h1];rfl
 rwa [List.getElem?_take_of_lt (by omega),List.getElem?_drop,Nat.add_zero] at this
theorem aBw{M w}{x:bH}(h:x.Ok):Gv.rep M w [.int .i64 x.term,.string x.data] x:=⟨[_],_,rfl,⟨rfl,h.1⟩,rfl,h.2⟩
theorem CA{M w cs}{x:bH}(h:Gv.rep M w cs x):cs=[.int .i64 x.term,.string x.data]/\x.Ok:=by
 obtain ⟨_,_,rfl,⟨rfl,h1⟩,rfl,h2⟩:=h;exact ⟨rfl,h1,h2⟩
theorem aBx(M w cs)(x:bH)(h:Gv.rep M w cs x):(cs.all λu=>oY u)=true:=by
 rw [(CA h).1];rfl
theorem tO{M w l}(h:∀ x∈l,x.Ok):dR M w (bD l) l:=by
 refine ⟨YU l,λj hj=>?_⟩;rw [show (Gv.ty bH).size=2 from rfl,a3X hj];exact aBw (h _ (List.getElem_mem hj))
theorem YV{M w cs l}(h:dR M w cs l):cs=bD l/\∀ x∈l,x.Ok:=by
 refine ⟨?_,λx hx=>?_⟩
 .apply List.ext_getElem?;intro i;by_cases hi:i<cs.length
  .have hl:=h.1;rw [show (Gv.ty bH).size=2 from rfl] at hl;have hj:i / 2<l.length:=by omega
   have h1:=(CA (h.2 (i / 2) hj)).1;rw [show (Gv.ty bH).size=2 from rfl,<-a3X hj] at h1;have h2:((cs.drop (i / 2*2)).take 2)[i % 2]? = (((bD l).drop (i / 2*2)).take 2)[i % 2]? := by rw [h1]
   rw [List.getElem?_take_of_lt (by omega),List.getElem?_take_of_lt (by omega),List.getElem?_drop,List.getElem?_drop] at h2
   rwa [show i / 2*2+i % 2=i by omega] at h2
  .have hl:=h.1;rw [show (Gv.ty bH).size=2 from rfl] at hl;rw [List.getElem?_eq_none (by omega),List.getElem?_eq_none (by rw [YU];omega)]
 .obtain ⟨j,hj,rfl⟩:=List.getElem_of_mem hx;exact (CA (h.2 j hj)).2
abbrev dH.cells(r:dH)(p:Option Addr)(c:Nat):List Value:=[.int .i64 r.id,.int .i64 r.term,.int .i64 r.aK,.slice p r.log.length c,.int .i64 r.role,.int .i64 r.aD,.bool (r.bX 0),.bool (r.bX 1),.bool (r.bX 2),.int .i64 (r.next 0),.int .i64 (r.next 1),.int .i64 (r.next 2),.int .i64 (r.cE 0),.int .i64 (r.cE 1),.int .i64 (r.cE 2)]
abbrev aV(b:Nat)(r:dH)(p:Option Addr)(c:Nat):List Own:=[.blk b (r.cells p c) 278,.buf p r.log.length c (bD r.log) 216 2]
structure YW(w:World)(b:Nat)(r:dH)(p:Option Addr)(c:Nat):Prop where
 row:bT w b 0 (r.cells p c)
 log:∀ j v,(bD r.log)[j]? = some v->∃ g,p=some ⟨g,0,none⟩/\w.cell? ⟨g,j,none⟩=some v
theorem DX{W w S}{Φ:PW}{b r p c}(h:Ctx W w (aV b r p c++S) Φ):YW w b r p c :=
 ⟨h.EO 0 rfl,λj v hj=>by
  obtain ⟨g,hg,_,h2⟩:=h.nU 1 rfl (by have:=(List.getElem?_eq_some_iff.1 hj).1;omega);exact ⟨g,hg,(h2 _ _ hj).1⟩⟩
theorem YW.drew{w b r p c}(h:YW w b r p c)(n):YW (w.drewN n) b r p c :=
 ⟨((kT.refl [] w).drewN n).row h.row (by simp),λj v hj=>by
  obtain ⟨g,hg,h2⟩:=h.log j v hj;exact ⟨g,hg,((kT.refl [] w).drewN n).cell h2 (by simp)⟩⟩
theorem YW.at{w b r p c}(h:YW w b r p c)(k){v}(hv:(r.cells p c)[k]? = some v):w.cell? ⟨b,k,none⟩=some v:=by
 have hlt:=(List.getElem?_eq_some_iff.1 hv).1;have:=h.row k hlt;rw [Nat.zero_add] at this;rw [this,<-hv,List.getElem?_eq_getElem hlt]
theorem nX(n a b):Quiet prog F.dL #[.int .i64 n,.int .i64 a,.int .i64 b] (.bool (decide (a<=n)&&decide (n<=b))) :=
 quiet_of (λw J h=>HJ n a b w J h) λw=>⟨rfl,rfl⟩
theorem gR{l k}(h:k<l.length):aU l (k+1)=l[k].term:=by
 simp only [aU,List.getElem?_eq_getElem h]
theorem aG4{w b r p c}(h:YW w b r p c){n:Int}{k:Nat}(hn:n=k)(hk:k<=r.log.length)(h4:r.log.length<=4000):
  aG F.cC #[.pointer (some ⟨b,0,none⟩),.int .i64 n] w λe w'=>e=.returned (.int .i64 (aU r.log k))/\w'=w:=by
 subst hn;refine (z6 b 0 k w (λu w'=>u=.int .i64 (aU r.log k)/\w'=w) ?_).mono λe w' ⟨v,h1,h2,h3⟩=>⟨by rw [h1,h2],h3⟩;refine Br.intro (λh0=>?_) (λh0=>?_)
 .have h0:k=0:=by have:=fV h0;omega
  subst h0;exact ⟨rfl,rfl⟩
 .obtain ⟨j,rfl⟩:∃ j,k=j+1:=⟨k - 1,by have:=eV h0;omega⟩;have hj:j<r.log.length:=by omega
  obtain ⟨g,hg,hc⟩:=h.log _ _ (aG3 hj);refine ⟨p,r.log.length,c,by rw [Nat.zero_add];exact h.at 3 rfl,by unfold bE;omega,by omega,bF g 0 hg ⟨r.log[j].term,?_,?_,rfl⟩⟩
  .rw [show (((j+1:Nat):Int) - 1).toNat=j by omega,Nat.zero_add];exact hc
  .rw [gR hj]
theorem a3Y{w b r p c}(h:YW w b r p c){n:Int}{k:Nat}(hn:n=k)(hk:k<=r.log.length)(h4:r.log.length<=4000){w0}(e:∃ m,w0=w.drewN m):
  aG F.cC #[.pointer (some ⟨b,0,none⟩),.int .i64 n] w0 λe w'=>e=.returned (.int .i64 (aU r.log k))/\∃ m,w'=w.drewN m:=by
 obtain ⟨m,rfl⟩:=e;exact (aG4 (h.drew m) hn hk h4).mono λe w' ⟨h1,h2⟩=>⟨h1,m,h2⟩
theorem YX{W w S}{Φ:PW}[aB Φ]{b r p c}(cx:Ctx W w (aV b r p c++S) Φ){n:Int}{k:Nat}(hn:n=k)(hk:k<=r.log.length)(h4:r.log.length<=4000){K}(hK:∀ w',Ctx W w' (aV b r p c++S) Φ->K (.returned (.int .i64 (aU r.log k))) w'):aG F.cC #[.pointer (some ⟨b,0,none⟩),.int .i64 n] w K :=
 (aG4 (DX cx) hn hk h4).mono λe w' ⟨h1,h2⟩=>by subst h2;rw [h1];exact hK _ cx
abbrev kN(x:Int):Value:=.int .i64 x
def Q7(q:Int->Bool):Nat->List Int->Int
 | _,[] => -1
 | i,x :: r=>if q x=true then i else Q7 q (i+1) r
theorem a9q(q)(l:List Int)(i)(hi:i<l.length):Q7 q i (l.drop i)=if q l[i]=true then (i:Int) else Q7 q (i+1) (l.drop (i+1)):=by
 rw [List.drop_eq_getElem_cons hi];rfl
theorem ints_at{l:List Int}{i}(h:i<l.length):(l.map kN)[i]? = some (.int .i64 l[i]):=by rw [List.getElem?_map,List.getElem?_eq_getElem h];rfl
theorem a9r{W w S}{Φ:PW}[aB Φ]{k l t}(c:Ctx W w (.blk k (l.map kN) t :: S) Φ)(n cap)(hn:n=l.length)(f cp q)(hlen:l.length<=1000000)(hf:sI prog f=true)(hq:∀ x,dF Φ prog f (Array.mk (.int .i64 x :: cp.toList)) (.bool (q x))){K}(hk:∀ w',Ctx W w' (.blk k (l.map kN) t :: S) Φ->K (.returned (.int .i64 (Q7 q 0 l))) w'):
  aG F.jL #[.slice (some ⟨k,0,none⟩) n cap,.func (.func f) #[] cp] w K:=by
 subst hn;refine iO (uQ (some ⟨k,0,none⟩) l.length cap f cp (J:=K∘.returned) c ?_);refine dS (λn R' aX m=>∃ i:Nat,n=i/\i<=l.length/\R'=.blk k (l.map kN) t :: S/\aX=Φ/\m=l.length - i/\Q7 q 0 l=Q7 q i (l.drop i)) ⟨⟨_,Φ,_,aR,λw F c=>c,0,rfl,Nat.zero_le _,rfl,rfl,rfl,rfl⟩,?_⟩;rintro n R1 cL m _ ⟨i,rfl,hi,rfl,rfl,rfl,hor⟩;refine Br.intro (λhlt=>?_) (λhge=>λw G cx=>?_)
 .have hlt:i<l.length:=by simpa using hlt
  rw [a9q q l i hlt] at hor;refine ⟨by omega,bF k 0 rfl λw G cx=>⟨l[i],by rw [Int.toNat_natCast,Nat.zero_add];exact cx.get 0 rfl (ints_at hlt),λw G cx=>⟨hf,(hq l[i]).use cx λw cx=>⟨_,rfl,_,cL,aR,cx,Br.intro (λh=>λw G cx=>?_) (λh=>⟨by unfold bE;omega,_,cL,l.length - (i+1),aR,λw F c=>c,⟨i+1,rfl,hlt,rfl,rfl,rfl,?_⟩,by omega⟩)⟩⟩⟩⟩
  .have:=hk w cx.left;rw [hor,if_pos h] at this;exact this
  .rw [hor,if_neg (by rw [h];simp)]
 .have hge:i=l.length:=Nat.le_antisymm hi (by simpa using hge);have:=hk w cx.left;rw [hor,hge,List.drop_length] at this;exact this
theorem a9s{W:World}{b k0:Nat}{r:dH}{p:Option Addr}{c:Nat}{Φ:PW}[aB Φ](x:Int):
  dF (iT W (.blk k0 [.pointer (some ⟨b,0,none⟩)] 130 :: aV b r p c) Φ) prog F.jK (Array.mk (.int .i64 x :: (#[.pointer (some ⟨k0,0,none⟩)]:Array Value).toList)) (.bool (decide (x=r.id))):=by
 refine kE (uP x k0 0) λW' R=>?_;have h1:∀ {M w},iT W (.blk k0 [.pointer (some ⟨b,0,none⟩)] 130 :: aV b r p c) Φ M w->w.cell? ⟨k0,0,none⟩=some (.pointer (some ⟨b,0,none⟩)):=fun {M w} h=>by
  have:=(h.parked (o:=.blk k0 [.pointer (some ⟨b,0,none⟩)] 130) (by simp)).1;exact (show vT w k0 [.pointer (some ⟨b,0,none⟩)] 130 from this).D8 rfl
 have h2:∀ {M w},iT W (.blk k0 [.pointer (some ⟨b,0,none⟩)] 130 :: aV b r p c) Φ M w->w.cell? ⟨b,0,none⟩=some (.int .i64 r.id):=fun {M w} h=>by
  have:=(h.parked (o:=.blk b (r.cells p c) 278) (by simp)).1;exact (show vT w b (r.cells p c) 278 from this).D8 rfl
 exact λw G cx=>⟨some ⟨b,0,none⟩,h1 cx.yK,bF b 0 rfl λw G cx=>⟨r.id,h2 cx.yK,λw G cx=>⟨rfl,cx.left⟩⟩⟩
theorem Q8{P ats ty cs args v w w'}(h:(Builtin.clear_ ats ty args).run P w=.ok v w'):Sem.run P (builtin Builtin.clear ats ty cs args) w=.ok (.value v) w':=by
 unfold builtin;simp only [Sem.run_bind,h,Result.andThen,Sem.run_pure]
theorem aG5(vs):∀ (a b:List Value) (n:Nat),n=a.length->vs.length=b.length->mS (a++b) n vs=a++vs:=by
 intro a b n hn hl;subst hn;apply List.ext_getElem?;intro i;by_cases hi:i<a.length
 .rw [rK _ _ _ _ (.inl hi),List.getElem?_append_left hi,List.getElem?_append_left hi]
 .by_cases hi2:i<a.length+vs.length
  .obtain ⟨j,rfl⟩:∃ j,i=a.length+j:=⟨i - a.length,by omega⟩;rw [Q4 _ _ _ _ (by omega) (by rw [List.length_append];omega),List.getElem?_append_right (by omega),show a.length+j - a.length=j by omega]
  .rw [List.getElem?_eq_none (by rw [HH,List.length_append];omega),List.getElem?_eq_none (by rw [List.length_append];omega)]
theorem aVE:∀ w:World,(zeroValue 3).run prog w=.ok (.int .i64 0) w:=λw=>by kernel_rfl
theorem a6w{W w S}{Φ:PW}[aB Φ]{k}{l:List Int}(c:Ctx W w (.blk k (l.map kN) 3 :: S) Φ)(f cp q n)(hn:n=l.length)(h0:0<l.length)(hlen:l.length<=1000000)(hf:sI prog f=true)(hq:∀ x,dF Φ prog f (Array.mk (.int .i64 x :: cp.toList)) (.bool (q x)))(hsome:l.any q=true){K}(hk:∀ w' rest,Ctx W w' (.blk k ((l.filter λx => !q x).map kN++rest) 3 :: S) Φ->K (.returned (.slice (some ⟨k,0,none⟩) (l.filter λx => !q x).length l.length)) w'):
  aG F.j3 #[.slice (some ⟨k,0,none⟩) n n,.func (.func f) #[] cp] w K:=by
 subst hn;have hfind:∀ (l:List Int) (i:Nat),l.any q=true->∃ j:Nat,Q7 q i l=((i+j:Nat):Int)/\∃ h:j<l.length,q l[j]=true/\∀ x∈l.take j,q x=false:=by
  intro l
  induction l with
  | nil=>intro i h;simp at h
  | cons x r ih =>
   intro i h;cases hx:q x with
   | true=>exact ⟨0,by unfold Q7;rw [if_pos hx];rfl,by simp,by simpa using hx,by simp⟩
   | false =>
    rw [List.any_cons,hx,Bool.false_or] at h;obtain ⟨j,h1,h2,h3,h4⟩:=ih (i+1) h;refine ⟨j+1,?_,by simp;omega,by simpa using h3,λy hy=>?_⟩
    .unfold Q7;rw [if_neg (by rw [hx];simp),h1];omega
    .rw [List.take_succ_cons] at hy;rcases List.mem_cons.1 hy with rfl|hy
     .exact hx
     .exact h4 y hy
 obtain ⟨j0,hj0,hj1,hj2,hj3⟩:=hfind l 0 hsome;rw [Nat.zero_add] at hj0;refine iO (tM (some ⟨k,0,none⟩) l.length l.length f cp (J:=K∘.returned) c ?_);refine λw G cx=>a9r (S:=S++G) cx l.length l.length rfl f cp q hlen hf hq λw cx=>⟨_,rfl,.blk k (l.map kN) 3 :: S,Φ,aR,cx,?_⟩;rw [hj0];refine Br.intro (λh=>by have:=fV h;omega) (λ_=>⟨by unfold bE;omega,?_⟩);have aPC:(l.take j0).filter (λx => !q x)=l.take j0:=List.filter_eq_self.2 λx hx=>by rw [hj3 x hx];rfl
 have hstart:(l.take (j0+1)).filter (λx => !q x)=l.take j0:=by
  rw [List.take_succ_eq_append_getElem hj1,List.filter_append,aPC];simp [hj2]
 refine dS (λa n R' aX m=>∃ (i j:Nat) (cs:List Value),a=i/\n=j/\j<=l.length/\i<j/\R'=.blk k cs 3 :: S/\aX=Φ/\m=l.length - j/\cs.length=l.length/\i=((l.take j).filter λx => !q x).length/\cs.take i=((l.take j).filter λx => !q x).map kN/\cs.drop j=(l.map kN).drop j)
  ⟨⟨_,Φ,_,aR,λw G cx=>cx,j0,j0+1,l.map kN,rfl,by omega,by omega,by omega,rfl,rfl,rfl,by simp,by rw [hstart];simp;omega,by rw [hstart,List.map_take],rfl⟩,?_⟩
 rintro _ _ R1 cL m _ ⟨i,j,cs,rfl,rfl,hjl,hij,rfl,rfl,rfl,uK,hi,hct,hcd⟩;refine Br.intro (λhlt=>?_) (λhge=>?_)
 .have hlt:j<l.length:=by simpa using hlt
  have hcj:cs[j]? = some (.int .i64 l[j]):=by
   have:(cs.drop j)[0]? = ((l.map kN).drop j)[0]? := by rw [hcd]
   rw [List.getElem?_drop,List.getElem?_drop,Nat.add_zero,ints_at hlt] at this;exact this
  have hts:(l.take (j+1)).filter (λx => !q x)=(l.take j).filter (λx => !q x)++(if q l[j]=true then [] else [l[j]]):=by
   rw [List.take_succ_eq_append_getElem hlt,List.filter_append];exact congrArg _ (by cases h:q l[j]<;>simp [h])
  refine ⟨by omega,bF k 0 rfl λw G cx=>⟨l[j],by rw [Int.toNat_natCast,Nat.zero_add];exact cx.get 0 rfl hcj,λw G cx=>⟨hf,(hq l[j]).use cx λw cx=>⟨_,rfl,_,cL,aR,cx,Br.intro (λh=>⟨by omega,bF k 0 rfl λw G cx=>⟨cx.can 0 rfl (by rw [Int.toNat_natCast];omega),λw' hw'=>?_⟩⟩) (λh=>?_)⟩⟩⟩⟩
  .rw [Int.toNat_natCast,Nat.zero_add] at hw';have jE:=cx.put 0 hw' rfl;have h:q l[j]=false:=by simpa using h
   rw [if_neg (by rw [h];simp)] at hts;refine ⟨.blk k (cs.set i (.int .i64 l[j])) 3 :: S,cL,aR,jE,by unfold bE;omega,by unfold bE;omega,_,cL,l.length - (j+1),aR,λw G cx=>cx,⟨i+1,j+1,cs.set i (.int .i64 l[j]),by omega,by omega,hlt,by omega,rfl,rfl,rfl,by simp [uK],by rw [hts,List.length_append,<-hi];rfl,?_,?_⟩,by omega⟩
   .rw [hts,List.map_append,<-hct,List.take_succ_eq_append_getElem (by simp [uK];omega),List.take_set_of_le (Nat.le_refl _),List.getElem_set_self];rfl
   .rw [List.drop_set_of_lt (by omega)];have:=congrArg (List.drop 1) hcd;rw [List.drop_drop,List.drop_drop] at this;exact this
  .have h:q l[j]=true:=by simpa using h
   rw [if_pos h,List.append_nil] at hts;refine ⟨by unfold bE;omega,_,cL,l.length - (j+1),aR,λw G cx=>cx,⟨i,j+1,cs,rfl,by omega,hlt,by omega,rfl,rfl,rfl,uK,by rw [hts];exact hi,by rw [hts];exact hct,?_⟩,by omega⟩;have:=congrArg (List.drop 1) hcd;rw [List.drop_drop,List.drop_drop] at this;exact this
 .have hge:j=l.length:=Nat.le_antisymm hjl (by simpa using hge);subst hge;rw [List.take_length] at hi hct;refine ⟨by omega,λw G cx=>?_⟩;have hne:¬ l.length=i:=by omega
  have hsub:cT (some ⟨k,0,none⟩) 1 (i:Int).toNat l.length=some ⟨k,i,none⟩:=by
   unfold cT;rw [Int.toNat_natCast,if_neg hne];simp [Addr.add];intro h;exact h.symm
  rw [hsub,Int.toNat_natCast];have hb:=cx.blk 0 rfl;have hrun:=Lib.run_clear_slice (P:=prog) w 37 3 0 (.int .i64 0) underlying37 aVE rfl rfl k i (l.length - i) (l.length - i) (by omega) (λt ht=>(cx.can 0 rfl (o:=i) (n:=l.length - i) (by omega) t ht).1) (λt ht=>(cx.can 0 rfl (o:=i) (n:=l.length - i) (by omega) t ht).2);refine ⟨_,Q8 hrun,.blk k (mS cs i (List.replicate (l.length - i) (.int .i64 0))) 3 :: S,cL,aR,cx.FR 0 rfl rfl,by omega,λw G cx=>?_⟩
  have hcs:cs=(l.filter λx => !q x).map kN++cs.drop i:=by rw [<-hct,List.take_append_drop]
  have e1:mS cs i (List.replicate (l.length - i) (.int .i64 0))=(l.filter λx => !q x).map kN++List.replicate (l.length - i) (.int .i64 0):=by
   conv=>lhs;rw [hcs]
   exact aG5 _ _ _ _ (by rw [List.length_map];exact hi) (by simp [uK])
  rw [e1] at cx;have e2:cT (some ⟨k,0,none⟩) 1 0 l.length=some ⟨k,0,none⟩:=by
   unfold cT;split
   .rfl
   .simp [Addr.add]
  rw [e2,hi];exact hk w _ cx.left
theorem N3{W w S}{Φ:PW}[aB Φ]{b r p c}(hid:r.id<=2)(cx:Ctx W w (aV b r p c++S) Φ){K}(hK:∀ k rest w',Ctx W w' (.blk k ((aL r.id).map (λx:Nat=>kN (x:Int))++rest) 3 :: (aV b r p c++S)) Φ->K (.returned (.slice (some ⟨k,0,none⟩) 2 3)) w'):
  aG F.fQ #[.pointer (some ⟨b,0,none⟩)] w K:=by
 refine iO (wI b 0 (J:=K∘.returned) cx ?_);intro k0 k1 w G cx;have jE:Ctx W w ((.blk k0 [.pointer (some ⟨b,0,none⟩)] 130 :: aV b r p c)++(.blk k1 ([0,1,2].map kN) 3 :: (S++G))) Φ:=by
  refine cx.perm ?_;show (Own.blk k1 [.int .i64 0,.int .i64 1,.int .i64 2] 3 :: ((Own.blk k0 [.pointer (some ⟨b,0,none⟩)] 130 :: aV b r p c)++S++G)).Perm _;rw [bM];exact List.perm_middle.symm
 have hst:aB (iT W (.blk k0 [.pointer (some ⟨b,0,none⟩)] 130 :: aV b r p c) Φ):=aR;refine a6w jE.aside F.jK #[.pointer (some ⟨k0,0,none⟩)] (λx:Int=>decide (x=(r.id:Int))) 3 rfl (by simp) (by simp) (by kernel_rfl) (λx=>a9s x) ?_ λw rest cx=>?_
 .have:r.id=0\/r.id=1\/r.id=2:=by omega
  rcases this with h|h|h<;>rw [h]<;>rfl
 .have aPC:([0,1,2]:List Int).filter (λx:Int => !decide (x=(r.id:Int)))=(aL r.id).map (λx:Nat=>(x:Int)):=by
   have:r.id=0\/r.id=1\/r.id=2:=by omega
   rcases this with h|h|h<;>rw [h]<;>rfl
  rw [aPC] at cx ⊢;have hl:((aL r.id).map (λx:Nat=>(x:Int))).length=2:=by unfold aL;split;rfl;split<;>rfl
  rw [hl];refine ⟨some ⟨k1,0,none⟩,2,3,rfl,.blk k1 ((aL r.id).map (λx:Nat=>kN (x:Int))++rest) 3 :: (aV b r p c++S),Φ,aR,?_,λw G cx=>hK k1 rest w cx.left⟩;have x9:=cx.zU;rw [List.map_map] at x9;refine Ctx.perm (x9.sub (S':=aV b r p c++(.blk k1 ((aL r.id).map (λx:Nat=>kN (x:Int))++rest) 3 :: (S++G))) (List.sublist_cons_self _ _)) ?_;refine List.perm_middle.trans (List.Perm.cons _ ?_);rw [<-bM];exact List.Perm.refl _
abbrev bA.cells(x:bA)(p:Option Addr)(c:Nat):List Value:=[.int .i64 x.kind,.int .i64 x.src,.int .i64 x.to,.int .i64 x.term,.int .i64 x.index,.int .i64 x.prev,.int .i64 x.aD,.bool x.yes,.slice p x.aE.length c]
abbrev bA.v(x:bA)(p:Option Addr)(c:Nat):Value:=.agg #[.int .i64 x.kind,.int .i64 x.src,.int .i64 x.to,.int .i64 x.term,.int .i64 x.index,.int .i64 x.prev,.int .i64 x.aD,.bool x.yes,.slice p x.aE.length c]
structure bA.Ok(x:bA):Prop where
 kind:bE x.kind
 src:bE x.src
 to:bE x.to
 term:bE x.term
 index:bE x.index
 prev:bE x.prev
 aD:bE x.aD
theorem a2d{M w cs}{x:bA}(h:Gv.rep M w cs x):∃ p c,cs=x.cells p c/\x.aE.length<=c/\c<=maxLen/\x.Ok/\Sl M w p x.aE:=by
 obtain ⟨_,_,rfl,⟨rfl,h1⟩,_,_,rfl,⟨rfl,h2⟩,_,_,rfl,⟨rfl,h3⟩,_,_,rfl,⟨rfl,h4⟩,_,_,rfl,⟨rfl,h5⟩,_,_,rfl,⟨rfl,h6⟩,_,_,rfl,⟨rfl,h7⟩,_,_,rfl,rfl,p,c,rfl,h8,h9,h10⟩:=h;exact ⟨p,c,rfl,h8,h9,⟨h1,h2,h3,h4,h5,h6,h7⟩,h10⟩
theorem Q9{M w}{x:bA}{p c}(h:x.Ok)(h6:x.aE.length<=c)(h7:c<=maxLen)(h8:Sl M w p x.aE):Gv.rep M w (x.cells p c) x :=
 ⟨[_],_,rfl,⟨rfl,h.kind⟩,[_],_,rfl,⟨rfl,h.src⟩,[_],_,rfl,⟨rfl,h.to⟩,[_],_,rfl,⟨rfl,h.term⟩,[_],_,rfl,⟨rfl,h.index⟩,[_],_,rfl,⟨rfl,h.prev⟩,[_],_,rfl,⟨rfl,h.aD⟩,[_],_,rfl,rfl,p,c,rfl,h6,h7,h8⟩
theorem aPD{M w}{x:bA}{p c}(h:Gv.rep M w (x.cells p c) x):Sl M w p x.aE:=by
 obtain ⟨p',c',e,_,_,_,h1⟩:=a2d h;simp only [bA.cells,List.cons.injEq,Value.slice.injEq] at e;rw [e.2.2.2.2.2.2.2.2.1.1];exact h1
theorem N4{M w b o}{l:List bH}(h:Sl M w (some ⟨b,o,none⟩) l){i}(hi:i<l.length):bT w b (o+i*2) [.int .i64 l[i].term,.string l[i].data]:=by
 obtain ⟨b',o',cs,e,_,h3,h4⟩:=h i hi;cases e;rw [<-(CA h4).1];exact h3
theorem aG6{M w p}{l:List bH}(h:Sl M w p l):∀ x∈l,x.Ok:=λx hx=>by
 obtain ⟨i,hi,rfl⟩:=List.getElem_of_mem hx;obtain ⟨_,_,_,_,_,_,h4⟩:=h i hi;exact (CA h4).2
theorem y8{W w S}{Φ:PW}[aB Φ]{q l c2}(c:Ctx W w S Φ)(qU:∀ M w,Φ M w->Sl M w q l)(hlen:l.length<100000000){K}(hk:∀ p cap w',Ctx W w' (.buf p l.length cap (bD l) 216 2 :: S) Φ->K (.returned (.slice p l.length cap)) w'):aG F.cI #[.slice q l.length c2] w K:=by
 refine iO (qQ q l.length c2 (J:=K∘.returned) c ?_);refine Br.intro (λh=>λw G cx=>?_) (λh=>λk w G cx=>?_)
 .have hq:q=none:=by simpa using h
  have hl:l.length=0:=by
   rcases Nat.eq_zero_or_pos l.length with h0|h0
   .exact h0
   .obtain ⟨b,o,hb⟩:=(qU _ _ cx.yK).there h0;rw [hq] at hb;cases hb
  have hl':l=[]:=List.eq_nil_of_length_eq_zero hl;subst hl';exact hk none 0 w (cx.left.Q3 216 2)
 .obtain ⟨p',cap',w',cs,hrun,cx'⟩:=Ctx.aGW (P:=prog) (ts:=99) (ty:=99) (kb:=#[false,false]) (bytes:=24) (c2:=c2) cx (by kernel_rfl) aBx qU hlen (by omega);obtain ⟨rfl,_⟩:=YV cx'.yK.2;exact ⟨p',l.length,cap',w',hrun,.buf p' l.length cap' (bD l) 216 2 :: S,Φ,aR,cx'.fst,λw G cx=>hk p' cap' w cx.left⟩
theorem a9u{W w:World}{Q:List Own}{Φ:PW}{M:List Nat}{p:Option Addr}{n c:Nat}{l:List bH}(h:iT W Q Φ M w)(hm:Own.buf p n c (bD l) 216 2∈Q)(hok:∀ x∈l,x.Ok):Sl M w p l :=
 y4.sl (α:=bH) (D:=[]) (h.parked hm) (tO hok)
theorem dH.Ok.aE{r:dH}(h:r.Ok):∀ x∈r.log,x.Ok:=λx hx=>by
 have h1:=h.log.lo x hx;have h2:=h.log.hi x hx;have h3:=h.log.data x hx;have h4:=h.iD;exact ⟨by unfold bE;omega,by unfold maxLen;omega⟩
theorem Sl.take{α}[Gv α]{M w p}{l:List α}(h:Sl M w p l)(k):Sl M w p (l.take k):=λj hj=>by
 have hj':j<l.length:=by simp at hj;omega
 rw [List.getElem_take];exact h j hj'
theorem zV{W w S}{Φ:PW}[aB Φ]{b r p c}(cx:Ctx W w (aV b r p c++S) Φ)(kind to){K}(hK:∀ w',Ctx W w' (aV b r p c++S) Φ->K (.returned ((mP r kind to).v none 0)) w'):aG F.eH #[.pointer (some ⟨b,0,none⟩),.int .i64 kind,.int .i64 to] w K:=by
 refine iO (vJ b 0 kind to (J:=K∘.returned) cx ?_);exact λ_ w G cx=>⟨r.id,cx.get 0 rfl rfl,λw G cx=>⟨r.term,cx.get 0 rfl rfl,λw G cx=>hK w cx.left⟩⟩
structure Fit(r:dH)(to:Nat):Prop where
 lo:1<=r.next to
 hi:r.next to<=r.log.length+1
 len:r.log.length<=4000
 to:to<3
theorem N5{r:dH}{p c to}(h:to<3):(r.cells p c)[9+to]? = some (.int .i64 (r.next to)):=by
 match to,h with
 | 0,_=>rfl
 | 1,_=>rfl
 | 2,_=>rfl
theorem JQ{r:dH}{p c to}(h:to<3):(r.cells p c)[12+to]? = some (.int .i64 (r.cE to)):=by
 match to,h with
 | 0,_=>rfl
 | 1,_=>rfl
 | 2,_=>rfl
set_option maxHeartbeats 1000000 in
theorem HL{W w S}{Φ:PW}[aB Φ]{b r p c}(cx:Ctx W w (aV b r p c++S) Φ)(hok:∀ x∈r.log,x.Ok){to:Int}(n:Nat)(hto:to=n)(hf:Fit r n){K}(hK:∀ q cap w',(entriesOf r n).aE.length<=cap->cap<=maxLen->Ctx W w' (aV b r p c++S) (λM w=>Φ M w/\Sl M w q (entriesOf r n).aE)->K (.returned ((entriesOf r n).v q cap)) w'):
  aG F.fH #[.pointer (some ⟨b,0,none⟩),.int .i64 to] w K:=by
 subst hto;have h1:=hf.lo;have h2:=hf.hi;have h3:=hf.len;have h4:=hf.to;refine iO (vK b 0 n (J:=K∘.returned) cx ?_);refine λ_ w G cx=>zV (gl cx) 2 n λw cx=>⟨_,_,_,_,_,_,_,_,none,_,0,rfl,aV b r p c++S,Φ,aR,gr cx,λ_=>⟨by omega,λw G cx=>⟨r.next n,?_,by unfold bE;omega,?_⟩⟩⟩
 .rw [Nat.zero_add,Int.toNat_natCast];exact cx.get 0 rfl (N5 h4)
 have hnx:((r.next n:Nat):Int) - 1=((r.next n - 1:Nat):Int):=by omega
 rw [hnx];have hmin:min ((r.log.length:Nat):Int) (((r.next n - 1:Nat):Int)+8)=((min r.log.length (r.next n - 1+8):Nat):Int):=by omega
 refine ⟨aV b r p c++S,Φ,aR,λw G cx=>cx,(r.aD:Int),λw G cx=>⟨_,cx.get 0 rfl rfl,rfl⟩,λw G cx=>YX (gl cx) rfl (by omega) h3 λw cx=>⟨_,rfl,aV b r p c++S,Φ,aR,gr cx,λw G cx=>cx,λw G cx=>cx,λw G cx=>cx,
  aV b r p c,Φ,aR,λw G cx=>cx.sub (by rw [bM];exact List.Sublist.append_left (List.sublist_append_right _ _) _),by unfold bE;omega,p,r.log.length,c,λw G cx=>⟨p,r.log.length,c,cx.get 0 rfl rfl,rfl⟩,p,r.log.length,c,λw G cx=>⟨p,r.log.length,c,cx.get 0 rfl rfl,rfl⟩,?_,λw G cx=>?_⟩⟩
 .have hc:=(cx.sU 1 rfl).2.1;omega
 rw [hmin,Int.toNat_natCast,Int.toNat_natCast];have hlen:min r.log.length (r.next n - 1+8) - (r.next n - 1)=((r.log.drop (r.next n - 1)).take 8).length:=by
  rw [List.length_take,List.length_drop];omega
 rw [hlen];have hc:=(cx.sU 1 rfl).2.1;have jE:Ctx W w (S++G) (iT W (aV b r p c) Φ):=Ctx.aside (cx.re (bM _ _ _));refine y8 jE (λM w h=>Sl.take (a6r (a9u h (n:=r.log.length) (c:=c) (by simp) hok) (r.next n - 1) hc) 8) (by rw [<-hlen];omega) λq cap w cx=>?_;obtain ⟨_,a2e,hcap2⟩:=cx.sU 0 rfl;have x9:Ctx W w (.buf q ((r.log.drop (r.next n - 1)).take 8).length cap (bD ((r.log.drop (r.next n - 1)).take 8)) 216 2 :: (aV b r p c++(S++G))) Φ:=cx.zU.perm List.perm_middle
 obtain ⟨QA,hs,_⟩:=Ctx.freeze (α:=bH) x9 (tO λx hx=>hok x (List.mem_of_mem_drop (List.mem_of_mem_take hx)));have hst:aB (λM w=>Φ M w/\Sl M w q ((r.log.drop (r.next n - 1)).take 8)):=aR;refine ⟨q,_,cap,rfl,aV b r p c++S,λM w=>Φ M w/\Sl M w q ((r.log.drop (r.next n - 1)).take 8),hst,gr (QA.add hs),λw G cx=>?_,λw G cx=>hK q cap w a2e hcap2 cx.left⟩;exact cx.fst.sub (by rw [bM];exact List.Sublist.append_left (List.sublist_append_right _ _) _)
theorem YY{W w S}{Φ:PW}[aB Φ](cx:Ctx W w S Φ)(m:bA)(p c)(hm:m.Ok)(h1:m.aE.length<=c)(h2:c<=maxLen)(qU:∀ M w,Φ M w->Sl M w p m.aE){K}(hK:∀ q w',Ctx W w' S (λM w=>Φ M w/\Sl M w q [m])->K (.returned (.agg #[.bool false,.int .i64 0,.int .i64 0,.int .i64 0,.slice none 0 0,.slice q 1 1])) w'):
  aG F.eY #[m.v p c] w K:=by
 refine iO (K9 m.kind m.src m.to m.term m.index m.prev m.aD m.yes p m.aE.length c (J:=K∘.returned) cx ?_);refine λ_ _ k w G cx=>?_;obtain ⟨jE,hs⟩:=cx.BZ (dR.one (Q9 (x:=m) hm h1 h2 (qU _ _ cx.yK)));exact hK (some ⟨k,0,none⟩) w (Ctx.left (F:=G) (Φ:=λM w=>Φ M w/\Sl M w (some ⟨k,0,none⟩) [m]) (jE.add hs))
abbrev VT(o:kR)(p1:Option Addr)(c1:Nat)(p2:Option Addr)(c2:Nat):Value:=.agg #[.bool o.save,.int .i64 o.term,.int .i64 o.aK,.int .i64 o.src,.slice p1 o.aE.length c1,.slice p2 o.send.length c2]
def a3Z(Φ:PW)(q1:Option Addr)(aE:List bH)(q2:Option Addr)(send:List bA):PW:=λM w=>Φ M w/\Sl M w q1 aE/\Sl M w q2 send
instance aNj(Φ:PW)[aB Φ](q1:Option Addr)(aE:List bH)(q2:Option Addr)(send:List bA):aB (a3Z Φ q1 aE q2 send) :=
 have h2:aB (λM w=>Sl M w q1 aE/\Sl M w q2 send):=dD (λM w=>Sl M w q1 aE) (λM w=>Sl M w q2 send)
 dD Φ (λM w=>Sl M w q1 aE/\Sl M w q2 send)
def HM(W:World)(S:List Own)(Φ:PW)(b:Nat)(r':dH)(o:kR)(K:Value->World->Prop):Prop :=
 ∀ p' c' q1 c1 q2 c2 w',o.aE.length<=c1->c1<=maxLen->o.send.length<=c2->c2<=maxLen->Ctx W w' (aV b r' p' c'++S) (a3Z Φ q1 o.aE q2 o.send)->K (VT o q1 c1 q2 c2) w'
theorem HM.zero{W w S Φ b r' K p c}(h:HM W S Φ b r' jS K)(cx:Ctx W w (aV b r' p c++S) Φ):K (VT jS none 0 none 0) w :=
 h p c none 0 none 0 w (Nat.le_refl _) (by simp [maxLen]) (Nat.le_refl _) (by simp [maxLen]) (cx.weak λM w h=>⟨h,Sl.nil,Sl.nil⟩)
theorem HM.sent{W w S Φ b r' K p c l q cap}(h:HM W S Φ b r' (mI l) K)(h1:l.length<=cap)(h2:cap<=maxLen)(cx:Ctx W w (aV b r' p c++S) (λM w=>Φ M w/\Sl M w q l)):K (VT (mI l) none 0 q cap) w :=
 h p c none 0 q cap w (Nat.le_refl _) (by simp [maxLen]) h1 h2 (cx.weak λM w h=>⟨h.1,Sl.nil,h.2⟩)
theorem a6x{r:dH}{p c i}(x)(h:i<3):(r.cells p c).set (6+i) (.bool x)={ r with bX:=put r.bX i x }.cells p c:=by
 match i,h with
 | 0,_=>rfl
 | 1,_=>rfl
 | 2,_=>rfl
theorem YZ{r:dH}{p c i}(x:Nat)(h:i<3):(r.cells p c).set (9+i) (.int .i64 x)={ r with next:=put r.next i x }.cells p c:=by
 match i,h with
 | 0,_=>rfl
 | 1,_=>rfl
 | 2,_=>rfl
theorem aBy{r:dH}{p c i}(x:Nat)(h:i<3):(r.cells p c).set (12+i) (.int .i64 x)={ r with cE:=put r.cE i x }.cells p c:=by
 match i,h with
 | 0,_=>rfl
 | 1,_=>rfl
 | 2,_=>rfl
theorem lJ{W w w' S}{Φ:PW}[aB Φ]{b r p c}(cx:Ctx W w (aV b r p c++S) Φ){i v}(e:w'=w.setCell ⟨b,i,none⟩ v)(r')(hc:(r.cells p c).set i v=r'.cells p c)(hl:r'.log=r.log):
  Ctx W w' (aV b r' p c++S) Φ:=by
 show Ctx W w' (.blk b (r'.cells p c) 278 :: .buf p r'.log.length c (bD r'.log) 216 2 :: S) Φ;rw [<-hc,hl];exact cx.put 0 e rfl
theorem Z0{W w w' S}{Φ:PW}[aB Φ]{b r p c}(cx:Ctx W w (aV b r p c++S) Φ){i vs}(e:w'=w.setCells b i vs)(r')(hc:mS (r.cells p c) i vs=r'.cells p c)(hl:r'.log=r.log):
  Ctx W w' (aV b r' p c++S) Φ:=by
 show Ctx W w' (.blk b (r'.cells p c) 278 :: .buf p r'.log.length c (bD r'.log) 216 2 :: S) Φ;rw [<-hc,hl];exact cx.FR 0 e rfl
theorem pX(id):(aL id).length=2:=by unfold aL;split;rfl;split<;>rfl
theorem CC{id}:∀ x∈aL id,x<3/\(id<=2->x≠id):=by
 intro x hx;unfold aL at hx;split at hx
 .simp at hx;omega
 .split at hx<;>simp at hx<;>omega
theorem dH.Ok.aU{r:dH}(h:r.Ok)(k):0<=aU r.log k/\Go.Proofs.YtnlkemjhgdbfkaaGreatDoor.aU r.log k<=r.term:=by
 have h0:=h.kK;cases k with
 | zero=>exact ⟨Int.le_refl _,h0⟩
 | succ k =>
  by_cases hk:k<r.log.length
  .rw [gR hk];have h1:=h.log.lo _ (List.getElem_mem hk);have h2:=h.log.hi _ (List.getElem_mem hk);omega
  .simp only [Go.Proofs.YtnlkemjhgdbfkaaGreatDoor.aU,List.getElem?_eq_none (Nat.not_lt.1 hk)];omega
theorem dH.Ok.fit{r}(h:r.Ok)(hr:r.role=2){i}(hi:i<3):Fit r i:=⟨(h.next hr i).1,(h.next hr i).2.1,h.len,hi⟩
theorem DY{r}(h:r.Ok){n}(hf:Fit r n):(entriesOf r n).Ok:=by
 have h1:=h.aU (r.next n - 1);have h2:=h.id;have h3:=h.kK;have h4:=h.iD;have h5:=h.aD;have h6:=h.len;have h7:=hf.hi;have h8:=hf.to;have e:∀ {x:Int},-1<=x->x<=1099511627776->bE x:=λh h'=>by unfold bE;omega
 unfold entriesOf;exact ⟨e (by simp) (by simp),e (by simp only;omega) (by simp only;omega),e (by simp only;omega) (by simp only;omega),e (by simp only;omega) (by simp only;omega),e (by simp only;omega) (by simp only;omega),e (by simp only;omega) (by simp only;omega),e (by simp only;omega) (by simp only;omega)⟩
set_option maxHeartbeats 1000000 in
theorem W6{W w S}{Φ:PW}[aB Φ]{b r p c}(cx:Ctx W w (aV b r p c++S) Φ)(hr:r.Ok)(hf:∀ i,i<3->Fit r i){K}(hK:∀ q cap w',(bL r).length<=cap->cap<=maxLen->Ctx W w' (aV b r p c++S) (λM w=>Φ M w/\Sl M w q (bL r))->K (.returned (.slice q (bL r).length cap)) w'):
  aG F.fR #[.pointer (some ⟨b,0,none⟩)] w K:=by
 have hol:=pX r.id;have hal:(bL r).length=2:=by unfold bL;rw [List.length_map,hol]
 refine iO (AR b 0 (J:=K∘.returned) cx ?_);refine λw G cx=>N3 hr.id (gl cx) λk rest w cx=>⟨some ⟨k,0,none⟩,2,3,rfl,aV b r p c++(.blk k ((aL r.id).map (λx:Nat=>kN (x:Int))++rest) 3 :: S),Φ,aR,gr (Q:=aV b r p c) (T:=.blk k ((aL r.id).map (λx:Nat=>kN (x:Int))++rest) 3 :: S) (mid cx),?_⟩;refine dS (λq n cap iI R' aX m=>∃ (i:Nat) (gs:List Value),iI=i/\n=i/\i<=2/\R'=aV b r p c++(.buf q i cap gs 271 9 :: .blk k ((aL r.id).map (λx:Nat=>kN (x:Int))++rest) 3 :: S)/\aX=(λM w=>Φ M w/\dR M w gs ((bL r).take i))/\m=2 - i)
  ⟨⟨_,λM w=>Φ M w/\dR M w [] ((bL r).take 0),_,aR,λw G cx=>gr (Q:=aV b r p c) (T:=.buf none 0 0 [] 271 9 :: .blk k ((aL r.id).map (λx:Nat=>kN (x:Int))++rest) 3 :: S) (mid ((gl (Q:=aV b r p c) (cx.weak (Ψ:=λM w=>Φ M w/\dR M w [] ((bL r).take 0)) λM w h=>⟨h,by rw [List.take_zero];exact dR.nil⟩)).Q3 271 9)),0,[],rfl,rfl,Nat.zero_le _,rfl,rfl,rfl⟩,?_⟩
 rintro q i cap iI R1 cL m _ ⟨_,gs,rfl,rfl,hi,rfl,rfl,rfl⟩;refine Br.intro (λhlt=>?_) (λhge=>λw G cx=>?_)
 .have hlt:i<2:=by have:=fV hlt;omega
  have hio:i<(aL r.id).length:=by omega
  obtain ⟨n,hn⟩:∃ n,(aL r.id)[i]=n:=⟨_,rfl⟩;have hn3:n<3:=hn ▸ (CC _ (List.getElem_mem hio)).1;have hfn:=hf n hn3;have hst:aB (λM w=>Φ M w/\dR M w gs ((bL r).take i)):=aR;refine ⟨by omega,bF k 0 rfl λw G cx=>⟨n,?_,λw G cx=>?_⟩⟩
  .rw [Int.toNat_natCast,Nat.zero_add];refine cx.get 3 rfl ?_;rw [List.getElem?_append_left (by rw [List.length_map];omega),List.getElem?_map,List.getElem?_eq_getElem hio,hn];rfl
  refine HL (Φ:=λM w=>Φ M w/\dR M w gs ((bL r).take i)) (gl cx) hr.aE n rfl hfn λq2 cap2 w h1 h2 cx=>?_;have aJ3:aB (λM w=>(Φ M w/\dR M w gs ((bL r).take i))/\Sl M w q2 (entriesOf r n).aE):=aR;refine ⟨_,_,_,_,_,_,_,_,q2,_,cap2,rfl,aV b r p c++(.buf q i cap gs 271 9 :: .blk k ((aL r.id).map (λx:Nat=>kN (x:Int))++rest) 3 :: S),λM w=>(Φ M w/\dR M w gs ((bL r).take i))/\Sl M w q2 (entriesOf r n).aE,aJ3,gr cx,λk2 w G cx=>?_⟩
  have jE:Ctx W w (.blk k2 ((entriesOf r n).cells q2 cap2) 271 :: .buf q i cap gs 271 9 :: (aV b r p c++(.blk k ((aL r.id).map (λx:Nat=>kN (x:Int))++rest) 3 :: (S++G)))) (λM w=>(Φ M w/\dR M w gs ((bL r).take i))/\Sl M w q2 (entriesOf r n).aE):=by
   exact cx.perm (List.Perm.cons _ ((List.Perm.of_eq (bM _ _ _)).trans List.perm_middle))
  obtain ⟨p',cap',w',hrun,_,cx'⟩:=Ctx.YQ (P:=prog) (ts:=144) (ty:=144) (kb:=#[false,false]) (size:=9) (bytes:=88) jE (by kernel_rfl) (by omega) rfl rfl (by omega) (by omega);have VC:aB (λM w=>Φ M w/\dR M w (gs++(entriesOf r n).cells q2 cap2) ((bL r).take (i+1))):=aR;refine ⟨p',i+1,cap',w',hrun,aV b r p c++(.buf p' (i+1) cap' (gs++(entriesOf r n).cells q2 cap2) 271 9 :: .blk k ((aL r.id).map (λx:Nat=>kN (x:Int))++rest) 3 :: S),λM w=>Φ M w/\dR M w (gs++(entriesOf r n).cells q2 cap2) ((bL r).take (i+1)),VC,gr (mid ((cx'.weak λM w h=>⟨h.1.1,?_⟩))),by unfold bE;omega,_,_,2 - (i+1),VC,λw G cx=>cx,⟨i+1,_,by omega,rfl,by omega,rfl,rfl,rfl⟩,by omega⟩
  have:(bL r).take (i+1)=(bL r).take i++[entriesOf r n]:=by
   rw [List.take_succ_eq_append_getElem (by omega)];unfold bL;rw [List.getElem_map,hn]
  rw [this];exact h.1.2.snoc (Q9 (DY hr hfn) h1 h2 h.2)
 .have hge:i=2:=by have:=eV hge;omega
  subst hge;have htk:(bL r).take 2=bL r:=by rw [<-hal,List.take_length]
  have jE:=front (gl cx);have h:=jE.yK.2;rw [htk] at h;have x9:Ctx W w (.buf q 2 cap gs 271 9 :: (aV b r p c++(.blk k ((aL r.id).map (λx:Nat=>kN (x:Int))++rest) 3 :: S++G))) Φ:=jE.fst;obtain ⟨QA,hs,_,hcap,hmax⟩:=Ctx.freeze (α:=bA) x9 h;have cx4:=(front (QA.add (Ψ:=λM w=>Sl M w q (bL r)) hs)).drop1;have:=hK q cap w (by rw [hal];exact hcap) hmax (Ctx.left (F:=G) (Φ:=λM w=>Φ M w/\Sl M w q (bL r)) (gr cx4))
  rw [hal] at this;exact this
theorem tP{x}(h : -1<=x)(h':x<=1099511627777):bE x:=by unfold bE;omega
theorem DZ{r:dH}(h:r.Ok){kind to index prev yes}(h1:0<=kind/\kind<=3)(h2 : -1<=to/\to<=2)(h3 : -1<=index/\index<=8000)(h4:0<=prev/\prev<=1099511627776):(⟨kind,r.id,to,r.term,index,prev,0,yes,[]⟩:bA).Ok:=by
 have h5:=h.id;have h6:=h.kK;have h7:=h.iD;exact ⟨tP (by simp only;omega) (by simp only;omega),tP (by simp only;omega) (by simp only;omega),tP (by simp only;omega) (by simp only;omega),tP (by simp only;omega) (by simp only;omega),tP (by simp only;omega) (by simp only;omega),tP (by simp only;omega) (by simp only;omega),tP (by simp only;omega) (by simp only;omega)⟩
theorem UI{W w S G}{Φ:PW}[aB Φ]{b k r p c m}(cx:Ctx W w (aV b r p c++.blk k (m.cells none 0) 271 :: S++G) Φ)(hm:m.Ok)(hr:m.aE=[]){K}(hK:HM W S Φ b r (mI [m]) K){K2}(hk2:∀ q w',Ctx W w' (aV b r p c++.blk k (m.cells none 0) 271 :: S++G) (λM w=>Φ M w/\Sl M w q [m])->(∀ w G',Ctx W w (aV b r p c++.blk k (m.cells none 0) 271 :: S++G') (λM w=>Φ M w/\Sl M w q [m])->K (VT (mI [m]) none 0 q 1) w)->K2 (.returned (VT (mI [m]) none 0 q 1)) w'):
  aG F.eY #[m.v none 0] w K2:=by
 refine YY cx m none 0 hm (by rw [hr];exact Nat.le_refl _) (by simp [maxLen]) (λM w h=>by rw [hr];exact Sl.nil) λq w cx=>hk2 q w cx λw G' cx=>?_;have hst:aB (λM w=>Φ M w/\Sl M w q [m]):=aR;exact hK.sent (by simp) (by simp [maxLen]) (Ctx.left (F:=G') (lift cx).drop1)
set_option maxHeartbeats 1000000 in
theorem a6y{W w S}{Φ:PW}[aB Φ]{b r p c}(cx:Ctx W w (aV b r p c++S) Φ)(hr:r.Ok)(m q qc)(h1:0<=m.src)(h2:m.src<=2){K}(hK:HM W S Φ b (cX r m).1 (cX r m).2 λv w=>K (.returned v) w):aG F.jA #[.pointer (some ⟨b,0,none⟩),m.v q qc] w K:=by
 have hlen:=hr.len;refine iO (yR b 0 m.kind m.src m.to m.term m.index m.prev m.aD m.yes q m.aE.length qc (J:=K∘.returned) cx ?_);refine λ_ _ w G cx=>zV (gl cx) 1 m.src λw cx=>⟨_,_,_,_,_,_,_,_,none,_,0,rfl,aV b r p c++S,Φ,aR,gr cx,λk w G cx=>⟨cx.can 0 rfl (by simp),λw' hw'=>?_⟩⟩;have jE:Ctx W w' (aV b r p c++.blk k ((mP r 1 m.src).cells none 0) 271 :: S++G) Φ:=sink (cx.FR 0 hw' rfl);refine ⟨_,Φ,aR,jE,λw G cx=>⟨p,r.log.length,c,cx.get 0 rfl rfl,λw G cx=>YX (gl cx) rfl (Nat.le_refl _) hlen λw cx=>⟨_,rfl,_,Φ,aR,gr cx,λw G cx=>⟨p,r.log.length,c,λ_=>cx.get 0 rfl rfl,λw G cx=>⟨r.term,cx.get 0 rfl rfl,r.aK,λ_=>cx.get 0 rfl rfl,r.aK,λ_=>cx.get 0 rfl rfl,Br.intro (λh=>?_) (λh=>?_)⟩⟩⟩⟩⟩
 .have hv:cX r m=({ r with aK:=m.src },mI [⟨1,r.id,m.src,r.term,0,0,0,true,[]⟩]):=by unfold cX HI;rw [if_pos h]
  rw [hv] at hK;refine ⟨[],λ_ _=>True,aR,λw G cx=>(cx.weak λ_ _ _=>trivial).right,λw G cx=>⟨cx.can 2 rfl (by simp),λw' hw'=>?_⟩⟩;have jE:Ctx W w' (aV b r p c++.blk k ((⟨1,r.id,m.src,r.term,0,0,0,true,[]⟩:bA).cells none 0) 271 :: S++G) Φ:=cx.put 2 hw' rfl;refine ⟨_,Φ,aR,jE,λw G cx=>(cx.weak λ_ _ _=>trivial).right,λw G cx=>⟨cx.can 0 rfl (by simp),λw' hw'=>?_⟩⟩;have jE:Ctx W w' (aV b { r with aK:=m.src } p c++.blk k ((⟨1,r.id,m.src,r.term,0,0,0,true,[]⟩:bA).cells none 0) 271 :: S++G) Φ:=gr (lJ (gl cx) hw' { r with aK:=m.src } rfl rfl)
  refine ⟨_,Φ,aR,jE,λw G cx=>⟨_,_,_,_,_,_,_,_,none,_,0,cx.EO 2 rfl,λw G cx=>?_⟩⟩;refine UI cx (DZ hr (by omega) (by omega) (by omega) (by omega)) rfl hK λq w cx z7=>⟨_,_,_,_,none,_,0,q,_,1,rfl,_,_,aR,cx,λw G cx=>z7 w G cx⟩
 .have hv:cX r m=(r,mI [mP r 1 m.src]):=by unfold cX HI;rw [if_neg (by rw [h];simp)]
  rw [hv] at hK;refine λw G cx=>⟨_,_,_,_,_,_,_,_,none,_,0,cx.EO 2 rfl,λw G cx=>?_⟩;refine UI cx (DZ hr (by omega) (by omega) (by omega) (by omega)) rfl hK λq w cx z7=>⟨_,_,_,_,none,_,0,q,_,1,rfl,_,_,aR,cx,λw G cx=>z7 w G cx⟩
def lK(r:dH):dH:={ r with term:=r.term+1,aK:=r.id,role:=1,bX:=λi=>decide (i=r.id) }
theorem j6{r}(h:r.role=2):cV r=(r,mI (bL r)):=by unfold cV;rw [if_pos h]
theorem HN{r}(h:¬ r.role=2)(h2:r.term=1099511627776):cV r=(r,jS):=by unfold cV;rw [if_neg h,if_pos h2]
theorem CD{r}(h:¬ r.role=2)(h2:¬ r.term=1099511627776):cV r=(lK r,⟨true,r.term+1,r.id,0,[],(aL r.id).map λi=>iP (lK r) i⟩):=by unfold cV;rw [if_neg h,if_neg h2];rfl
theorem a30{r}(h:r.Ok)(hr:¬ r.role=2)(h2:¬ r.term=1099511627776):(lK r).Ok:=by
 have h3:=h.kK;have h4:=h.iD;have h5:=h.id;refine ⟨h.id,by show 0<=r.term+1;omega,by show r.term+1<=_;omega,by show -1<=(r.id:Int);omega,by show (r.id:Int)<=2;omega,⟨h.log.lo,λx hx=>?_,h.log.data,h.log.N1⟩,h.len,.inr (.inl rfl),h.aD,λh=>?_,h.bound⟩
 .have:=h.log.hi x hx;show x.term<=r.term+1;omega
 .cases (show (1:Int)=2 from h)
theorem a6z{r}(h:r.Ok)(to)(ht:to<3):(iP r to).Ok:=by
 have h1:=h.aU r.log.length;have h2:=h.len;have h4:=h.iD;exact DZ h (by omega) (by omega) (by omega) (by omega)
set_option maxHeartbeats 2000000 in
theorem aG7{W w S}{Φ:PW}[aB Φ]{b r p c}(cx:Ctx W w (aV b r p c++S) Φ)(hr:r.Ok){K}(hK:HM W S Φ b (cV r).1 (cV r).2 λv w=>K (.returned v) w):aG F.nC #[.pointer (some ⟨b,0,none⟩)] w K:=by
 have hlen:=hr.len;have hid:=hr.id;have ht0:=hr.kK;have htM:=hr.iD;refine iO (yN b 0 (J:=K∘.returned) cx ?_);refine λ_ w G cx=>⟨r.role,cx.get 0 rfl rfl,Br.intro (λh=>λw G cx=>?_) (λh=>λw G cx=>⟨r.term,cx.get 0 rfl rfl,Br.intro (λh2=>λw G cx=>?_) (λh2=>?_)⟩)⟩
 .have h:=fV h;rw [j6 h] at hK;refine W6 (gl cx) hr (λi hi=>hr.fit h hi) λq cap w h1 h2 cx=>⟨q,_,cap,rfl,aV b r p c++S,λM w=>Φ M w/\Sl M w q (bL r),aR,gr cx,λw G cx=>hK.sent h1 h2 (Ctx.left (F:=G) (Φ:=λM w=>Φ M w/\Sl M w q (bL r)) cx)⟩
 .rw [HN (eV h) (fV h2)] at hK;exact hK.zero cx.left
 have h:=eV h;have h2:=eV h2;rw [CD h h2] at hK;have hao:=a30 hr h h2;refine λw G cx=>⟨r.id,cx.get 0 rfl rfl,λw G cx=>⟨r.term,cx.get 0 rfl rfl,by unfold bE;omega,λw G cx=>⟨cx.can 0 rfl (by simp),λw' hw'=>?_⟩⟩⟩;have jE:=gr (Z0 (gl cx) hw' { r with term:=r.term+1,aK:=r.id } rfl rfl);refine ⟨_,Φ,aR,jE,λw G cx=>⟨cx.can 0 rfl (by simp),λw' hw'=>?_⟩⟩;have jE:=gr (lJ (gl cx) hw' { r with term:=r.term+1,aK:=r.id,role:=1 } rfl rfl)
 refine ⟨_,Φ,aR,jE,λw G cx=>⟨cx.can 0 rfl (by simp),λw' hw'=>?_⟩⟩;have jE:=gr (Z0 (gl cx) hw' { r with term:=r.term+1,aK:=r.id,role:=1,bX:=λ_=>false } rfl rfl);refine ⟨_,Φ,aR,jE,[],λ_ _=>True,aR,λw G cx=>(cx.weak λ_ _ _=>trivial).right,λw G cx=>⟨r.id,cx.get 0 rfl rfl,by omega,λw G cx=>⟨cx.can 0 rfl (by rw [Int.toNat_natCast];simp;omega),λw' hw'=>?_⟩⟩⟩;have hvo:({ r with term:=r.term+1,aK:=r.id,role:=1,bX:=put (λ_=>false) r.id true }:dH)=lK r:=by
  unfold lK
  congr 1
 rw [Int.toNat_natCast,Nat.zero_add] at hw';have jE:=gr (lJ (gl cx) hw' { r with term:=r.term+1,aK:=r.id,role:=1,bX:=put (λ_=>false) r.id true } (a6x (r:={ r with term:=r.term+1,aK:=r.id,role:=1,bX:=λ_=>false }) true (by omega)) rfl);rw [hvo] at jE;have hal:(aL r.id).length=2:=pX _;obtain ⟨sl,qU⟩:∃ l,(aL r.id).map (λi=>iP (lK r) i)=l:=⟨_,rfl⟩;have aVG:sl.length=2:=by rw [<-qU,List.length_map,hal]
 rw [qU] at hK;refine ⟨_,Φ,aR,jE,λw G cx=>(cx.weak λ_ _ _=>trivial).right,λw G cx=>⟨_,_,cx.row 0 rfl (zT (vs:=[.int .i64 (r.term+1),.int .i64 r.id]) rfl),λ_ w G cx=>N3 (r:=lK r) hid (gl cx) λk rest w cx=>⟨some ⟨k,0,none⟩,2,3,rfl,aV b (lK r) p c++.blk k ((aL r.id).map (λx:Nat=>kN (x:Int))++rest) 3 :: S,Φ,aR,gr (Q:=aV b (lK r) p c) (T:=.blk k ((aL r.id).map (λx:Nat=>kN (x:Int))++rest) 3 :: S) (mid cx),?_⟩⟩⟩
 refine dS (λiI sv tm vt fr rp rn rc q n cap R' aX m=>∃ (i:Nat) (gs:List Value),iI=i/\n=i/\i<=2/\sv=true/\tm=r.term+1/\vt=r.id/\fr=0/\rn=0/\rp=none/\rc=0/\R'=aV b (lK r) p c++(.buf q i cap gs 271 9 :: .blk k ((aL r.id).map (λx:Nat=>kN (x:Int))++rest) 3 :: S)/\aX=(λM w=>Φ M w/\dR M w gs (sl.take i))/\m=2 - i)
  ⟨⟨_,λM w=>Φ M w/\dR M w [] (sl.take 0),_,aR,λw G cx=>gr (Q:=aV b (lK r) p c) (T:=.buf none 0 0 [] 271 9 :: .blk k ((aL r.id).map (λx:Nat=>kN (x:Int))++rest) 3 :: S) (mid ((gl (Q:=aV b (lK r) p c) (cx.weak (Ψ:=λM w=>Φ M w/\dR M w [] (sl.take 0)) λM w h=>⟨h,by rw [List.take_zero];exact dR.nil⟩)).Q3 271 9)),0,[],rfl,rfl,Nat.zero_le _,rfl,rfl,rfl,rfl,rfl,rfl,rfl,rfl,rfl,rfl⟩,?_⟩
 rintro iI _ _ _ _ _ _ _ q i cap R1 cL m _ ⟨_,gs,rfl,rfl,hi,rfl,rfl,rfl,rfl,rfl,rfl,rfl,rfl,rfl,rfl⟩;refine Br.intro (λhlt=>?_) (λhge=>λw G cx=>?_)
 .have hlt:i<2:=by have:=fV hlt;omega
  have hio:i<(aL r.id).length:=by omega
  obtain ⟨n,hn⟩:∃ n,(aL r.id)[i]=n:=⟨_,rfl⟩;have hn3:n<3:=hn ▸ (CC _ (List.getElem_mem hio)).1;have hst:aB (λM w=>Φ M w/\dR M w gs (sl.take i)):=aR;refine ⟨by omega,bF k 0 rfl λw G cx=>⟨n,?_,λw G cx=>?_⟩⟩
  .rw [Int.toNat_natCast,Nat.zero_add];refine cx.get 3 rfl ?_;rw [List.getElem?_append_left (by rw [List.length_map];omega),List.getElem?_map,List.getElem?_eq_getElem hio,hn];rfl
  refine zV (Φ:=λM w=>Φ M w/\dR M w gs (sl.take i)) (gl cx) 0 n λw cx=>⟨_,_,_,_,_,_,_,_,none,_,0,rfl,_,_,hst,gr cx,λk2 w G cx=>⟨cx.can 0 rfl (by simp),λw' hw'=>?_⟩⟩;have jE:Ctx W w' (aV b (lK r) p c++.blk k2 ((mP (lK r) 0 n).cells none 0) 271 :: (.buf q i cap gs 271 9 :: .blk k ((aL r.id).map (λx:Nat=>kN (x:Int))++rest) 3 :: S)++G) (λM w=>Φ M w/\dR M w gs (sl.take i)):=sink (cx.FR 0 hw' rfl);refine ⟨_,_,hst,jE,aV b (lK r) p c,λ_ _=>True,aR,λw G cx=>aG2 cx,p,r.log.length,c,λw G cx=>⟨p,r.log.length,c,cx.get 0 rfl rfl,rfl⟩,p,r.log.length,c,λw G cx=>⟨p,r.log.length,c,cx.get 0 rfl rfl,rfl⟩,λw G cx=>YX (gl cx) rfl (Nat.le_refl _) hlen λw cx=>⟨_,rfl,aV b (lK r) p c++.blk k2 ((mP (lK r) 0 n).cells none 0) 271 :: (.buf q i cap gs 271 9 :: .blk k ((aL r.id).map (λx:Nat=>kN (x:Int))++rest) 3 :: S),λM w=>Φ M w/\dR M w gs (sl.take i),hst,gr cx,λw G cx=>aG2 cx,λw G cx=>⟨cx.can 2 rfl (by simp),λw' hw'=>?_⟩⟩⟩
  have jE:Ctx W w' (aV b (lK r) p c++.blk k2 ((⟨0,r.id,n,r.term+1,r.log.length,0,0,false,[]⟩:bA).cells none 0) 271 :: (.buf q i cap gs 271 9 :: .blk k ((aL r.id).map (λx:Nat=>kN (x:Int))++rest) 3 :: S)++G) (λM w=>Φ M w/\dR M w gs (sl.take i)):=cx.put 2 hw' rfl;refine ⟨_,_,hst,jE,λw G cx=>aG2 cx,λw G cx=>⟨cx.can 2 rfl (by simp),λw' hw'=>?_⟩⟩;have jE:Ctx W w' (aV b (lK r) p c++.blk k2 ((iP (lK r) n).cells none 0) 271 :: (.buf q i cap gs 271 9 :: .blk k ((aL r.id).map (λx:Nat=>kN (x:Int))++rest) 3 :: S)++G) (λM w=>Φ M w/\dR M w gs (sl.take i)):=cx.put 2 hw' rfl
  refine ⟨_,_,hst,jE,λw G cx=>⟨_,_,_,_,_,_,_,_,none,_,0,cx.EO 2 rfl,λk3 w G cx=>?_⟩⟩;have jE:Ctx W w (.blk k3 ((iP (lK r) n).cells none 0) 271 :: .buf q i cap gs 271 9 :: (aV b (lK r) p c++(.blk k2 ((iP (lK r) n).cells none 0) 271 :: (.blk k ((aL r.id).map (λx:Nat=>kN (x:Int))++rest) 3 :: S))++G)) (λM w=>Φ M w/\dR M w gs (sl.take i)):=by
   refine cx.perm (List.Perm.cons _ ?_);exact (List.Perm.append_right G (List.Perm.append_left _ (List.Perm.swap _ _ _))).trans (List.Perm.append_right G List.perm_middle)
  obtain ⟨p',cap',w',hrun,_,cx'⟩:=Ctx.YQ (P:=prog) (ts:=144) (ty:=144) (kb:=#[false,false]) (size:=9) (bytes:=88) jE (by kernel_rfl) (by omega) rfl rfl (by omega) (by omega);have VC:aB (λM w=>Φ M w/\dR M w (gs++(iP (lK r) n).cells none 0) (sl.take (i+1))):=aR;have htk:sl.take (i+1)=sl.take i++[iP (lK r) n]:=by
   rw [List.take_succ_eq_append_getElem (by omega)];exact congrArg (λy=>sl.take i++[y]) (by simp only [<-qU,List.getElem_map,hn])
  have x9:=(front (gl (Q:=.buf p' (i+1) cap' (gs++(iP (lK r) n).cells none 0) 271 9 :: aV b (lK r) p c) (T:=.blk k2 ((iP (lK r) n).cells none 0) 271 :: (.blk k ((aL r.id).map (λx:Nat=>kN (x:Int))++rest) 3 :: S)) cx')).drop1;refine ⟨p',i+1,cap',w',hrun,aV b (lK r) p c++(.buf p' (i+1) cap' (gs++(iP (lK r) n).cells none 0) 271 9 :: .blk k ((aL r.id).map (λx:Nat=>kN (x:Int))++rest) 3 :: S),λM w=>Φ M w/\dR M w (gs++(iP (lK r) n).cells none 0) (sl.take (i+1)),VC,gr (mid (x9.weak λM w h=>⟨h.1,?_⟩)),by unfold bE;omega,_,_,2 - (i+1),VC,λw G cx=>cx,⟨i+1,_,by omega,rfl,by omega,rfl,rfl,rfl,rfl,rfl,rfl,rfl,rfl,rfl,rfl⟩,by omega⟩
  rw [htk];exact h.2.snoc (Q9 (a6z hao n hn3) (Nat.le_refl _) (by simp [maxLen]) Sl.nil)
 .have hge:i=2:=by have:=eV hge;omega
  subst hge;have htk:sl.take 2=sl:=by rw [<-aVG,List.take_length]
  have jE:=front (gl cx);have h:=jE.yK.2;rw [htk] at h;have x9:Ctx W w (.buf q 2 cap gs 271 9 :: (aV b (lK r) p c++(.blk k ((aL r.id).map (λx:Nat=>kN (x:Int))++rest) 3 :: S++G))) Φ:=jE.fst;obtain ⟨QA,hs,_,hcap,hmax⟩:=Ctx.freeze (α:=bA) x9 h;have cx4:=(front (QA.add (Ψ:=λM w=>Sl M w q sl) hs)).drop1;have:=hK p c none 0 q cap w (Nat.le_refl _) (by simp [maxLen]) (by show sl.length<=cap;omega) hmax ((Ctx.left (F:=G) (Φ:=λM w=>Φ M w/\Sl M w q sl) (gr cx4)).weak λM w h=>⟨h.1,Sl.nil,h.2⟩)
  unfold VT at this;simp only at this;rw [aVG] at this;exact this
theorem a6A(l:List bH)(i)(hi:i<l.length)(least most):oR (l.drop i) least most=if (decide (l[i].term<least)||decide (most<l[i].term)||decide (2000<(l[i].data.size:Int)))=true then false else oR (l.drop (i+1)) l[i].term most:=by
 rw [List.drop_eq_getElem_cons hi];rfl
theorem a6B{Φ:PW}[aB Φ](p cap l least most)(oX:∀ M w,Φ M w->Sl M w p l)(hlen:l.length<=9223372036854775807):
  dF Φ prog F.uD #[.slice p l.length cap,.int .i64 least,.int .i64 most] (.bool (oR l least most)):=by
 refine .there (λM w h=>(oX M w h).there) λhth=>?_;refine kE (MN p l.length cap least most) λW R=>?_;refine dS (λle n R' aX k=>∃ i:Nat,n=i/\i<=l.length/\R'=R/\aX=Φ/\k=l.length - i/\oR l least most=oR (l.drop i) le most) ⟨⟨R,Φ,_,aR,λw F c=>c,0,rfl,Nat.zero_le _,rfl,rfl,rfl,rfl⟩,?_⟩;rintro le n R1 cL k _ ⟨i,rfl,hi,rfl,rfl,rfl,hs⟩;refine Br.intro (λhlt=>?_) (λhge=>λw F cx=>⟨?_,cx.left⟩)
 .have hlt:i<l.length:=by simpa using hlt
  obtain ⟨b,o,rfl⟩:=hth (by omega);rw [a6A l i hlt] at hs;refine ⟨by omega,bF b o rfl λw F cx=>⟨l[i].term,l[i].data,by rw [Int.toNat_natCast];exact N4 (oX _ _ cx.yK) hlt,λ_ w F cx=>Br.intro (λh=>λw F cx=>⟨?_,cx.left⟩) (λh=>⟨by unfold bE;omega,R1,cL,l.length - (i+1),aR,λw F c=>c,⟨i+1,rfl,hlt,rfl,rfl,rfl,?_⟩,by omega⟩)⟩⟩
  .rw [hs,if_pos h]
  .rw [hs,if_neg (by rw [h];simp)]
 .have hge:i=l.length:=Nat.le_antisymm hi (by simpa using hge);rw [hs,hge,List.drop_length];rfl
theorem aDc{W w S}{Φ:PW}[aB Φ]{b r p c}(cx:Ctx W w (aV b r p c++S) Φ)(m q qc)(qU:∀ M w,Φ M w->Sl M w q m.aE)(hlen:m.aE.length<=9223372036854775807)(hix:bE m.index){K}(hK:∀ w',Ctx W w' (aV b r p c++S) Φ->K (.returned (.bool (gQ r.id m))) w'):aG F.mG #[.pointer (some ⟨b,0,none⟩),m.v q qc] w K:=by
 refine iO (xU b 0 m.kind m.src m.to m.term m.index m.prev m.aD m.yes q m.aE.length qc (J:=K∘.returned) cx ?_);have hfalse:∀ {w:World} {G:List Own},gQ r.id m=false->Ctx W w (aV b r p c++S++G) Φ->K (.returned (.bool false)) w:=fun {w G} h cx=>by
  have:=hK w cx.left;rw [h] at this;exact this
 refine λ_ w G cx=>⟨_,λw' hw=>(nX m.kind 0 3).atN hw,r.id,λ_=>cx.get 0 rfl rfl,r.id,λ_=>cx.get 0 rfl rfl,_,λ_ w' hw=>(nX m.src 0 2).atN hw,Br.intro (λh=>λw G cx=>?_) (λh1=>λw G cx=>?_)⟩
 .refine hfalse ?_ cx;rw [Bool.eq_false_iff];intro hr;unfold gQ at hr;simp only [Bool.and_eq_true,Bool.or_eq_true,decide_eq_true_eq,Bool.not_eq_true',Bool.and_eq_false_iff,decide_eq_false_iff_not] at hr h;omega
 refine ⟨_,λw' hw=>(nX m.term 1 1099511627776).at hw,_,λ_ w' hw=>(nX m.index 0 4000).at hw,_,λ_ w' hw=>(nX m.prev 0 m.term).at hw,Br.intro (λh=>λw G cx=>?_) (λh2=>λw G cx=>?_)⟩
 .refine hfalse ?_ cx;rw [Bool.eq_false_iff];intro hr;unfold gQ at hr;simp only [Bool.and_eq_true,Bool.or_eq_true,decide_eq_true_eq,Bool.not_eq_true',Bool.and_eq_false_iff,decide_eq_false_iff_not] at hr h;omega
 refine ((nX m.aD 0 4000).a19).use (gl cx) λw cx=>⟨_,rfl,aV b r p c++S,Φ,aR,gr cx,Br.intro (λh3=>Br.intro (λh4=>?_) (λh=>λw G cx=>?_)) (λh=>λw G cx=>?_)⟩
 .simp only [Bool.and_eq_true,Bool.or_eq_true,decide_eq_true_eq,Bool.or_eq_false_iff,Bool.not_eq_false',Bool.and_eq_false_iff,decide_eq_false_iff_not] at h1 h2 h3 h4;refine ⟨by unfold bE;omega,Br.intro (λh5=>λw G cx=>?_) (λh=>λw G cx=>?_)⟩
  .have h5:=fV h5;refine (a6B q qc m.aE (max 1 m.prev) m.term qU hlen).use (gl cx) λw cx=>⟨_,rfl,aV b r p c++S,Φ,aR,gr cx,λw G cx=>?_⟩;have:=hK w cx.left;have hr:gQ r.id m=oR m.aE (max 1 m.prev) m.term:=by
    unfold gQ;have hz:(!(decide (m.index=0)&&decide (m.prev≠0)))=true:=by
     simp only [Bool.not_eq_true',Bool.and_eq_false_iff,decide_eq_false_iff_not];omega
    rw [hz,decide_eq_true (show 0<=m.kind by omega),decide_eq_true (show m.kind<=3 by omega),decide_eq_true (show m.to=r.id by omega),decide_eq_true (show m.src≠r.id by omega),decide_eq_true (show 0<=m.src by omega),decide_eq_true (show m.src<=2 by omega),
     decide_eq_true (show 1<=m.term by omega),decide_eq_true (show m.term<=1099511627776 by omega),decide_eq_true (show 0<=m.index by omega),decide_eq_true (show m.index<=4000 by omega),decide_eq_true (show 0<=m.prev by omega),decide_eq_true (show m.prev<=m.term by omega),
     decide_eq_true (show 0<=m.aD by omega),decide_eq_true (show m.aD<=4000 by omega),decide_eq_true h4,decide_eq_true h5]
    rfl
   rw [hr] at this;exact this
  .refine hfalse ?_ cx;rw [Bool.eq_false_iff];intro hr;unfold gQ at hr;simp only [Bool.and_eq_true,decide_eq_true_eq,decide_eq_false_iff_not] at hr h;omega
 .refine hfalse ?_ cx;rw [Bool.eq_false_iff];intro hr;unfold gQ at hr;simp only [Bool.and_eq_true,decide_eq_true_eq,decide_eq_false_iff_not] at hr h;omega
 .refine hfalse ?_ cx;rw [Bool.eq_false_iff];intro hr;unfold gQ at hr;simp only [Bool.and_eq_true,decide_eq_true_eq,Bool.and_eq_false_iff,decide_eq_false_iff_not] at hr h;omega
def N6(id term aK:Int)(l:List bH):Bool:=decide (0<=id)&&decide (id<=2)&&decide (0<=term)&&decide (term<=1099511627776)&&decide (-1<=aK)&&decide (aK<=2)&&decide ((l.length:Int)<=4000)&&oR l 1 term
theorem aK6{W w S}{Φ:PW}[aB Φ](cx:Ctx W w S Φ)(id term aK l q qc)(qU:∀ M w,Φ M w->Sl M w q l)(hlen:l.length<=9223372036854775807){K}(h0:N6 id term aK l=false->∀ w',Ctx W w' S Φ->K (.returned (.pointer none)) w')(h1:N6 id term aK l=true->∀ b p c w',Ctx W w' (aV b (dP id.toNat term aK l) p c++S) Φ->K (.returned (.pointer (some ⟨b,0,none⟩))) w'):aG F.FW #[.int .i64 id,.agg #[.int .i64 term,.int .i64 aK],.slice q l.length qc] w K:=by
 refine iO (SC id term aK q l.length qc (J:=K∘.returned) cx ?_);have hf:∀ {w:World} {G:List Own},N6 id term aK l=false->Ctx W w (S++G) Φ->K (.returned (.pointer none)) w:=λh cx=>h0 h _ cx.left;refine λ_ w G cx=>(nX id 0 2).a19.use cx λw cx=>⟨_,rfl,S,Φ,aR,cx,Br.intro (λh=>λw G cx=>hf ?_ cx) (λhb1=>λw G cx=>(nX term 0 1099511627776).a19.use cx λw cx=>⟨_,rfl,S,Φ,aR,cx,Br.intro (λh=>λw G cx=>hf ?_ cx) (λhb2=>λw G cx=>(nX aK (-1) 2).a19.use cx λw cx=>⟨_,rfl,S,Φ,aR,cx,Br.intro (λh=>λw G cx=>hf ?_ cx) (λhb3=>Br.intro (λh=>λw G cx=>hf ?_ cx) (λhb4=>λw G cx=>(a6B q qc l 1 term qU hlen).use cx λw cx=>⟨_,rfl,S,Φ,aR,cx,Br.intro (λh=>λw G cx=>hf ?_ cx) (λhb5=>?_)⟩))⟩)⟩)⟩
 .unfold N6;rw [Bool.eq_false_iff];intro hr;simp only [Bool.and_eq_true,decide_eq_true_eq,Bool.not_eq_true',Bool.and_eq_false_iff,decide_eq_false_iff_not] at hr h;omega
 .unfold N6;rw [Bool.eq_false_iff];intro hr;simp only [Bool.and_eq_true,decide_eq_true_eq,Bool.not_eq_true',Bool.and_eq_false_iff,decide_eq_false_iff_not] at hr h;omega
 .unfold N6;rw [Bool.eq_false_iff];intro hr;simp only [Bool.and_eq_true,decide_eq_true_eq,Bool.not_eq_true',Bool.and_eq_false_iff,decide_eq_false_iff_not] at hr h;omega
 .unfold N6;rw [Bool.eq_false_iff];intro hr;simp only [Bool.and_eq_true,decide_eq_true_eq] at hr h;omega
 .unfold N6;rw [show oR l 1 term=false by simpa using h,Bool.and_false]
 .simp only [Bool.not_eq_false',Bool.and_eq_true,decide_eq_true_eq,decide_eq_false_iff_not] at hb1 hb2 hb3 hb4 hb5;have hn:N6 id term aK l=true:=by
   unfold N6;rw [hb5,Bool.and_true];simp only [Bool.and_eq_true,decide_eq_true_eq];omega
  refine ⟨[],λ_ _=>True,aR,λw G cx=>(cx.weak λ_ _ _=>trivial).right,λw G cx=>y8 cx qU (by omega) λp cap w cx=>⟨p,_,cap,rfl,.buf p l.length cap (bD l) 216 2 :: S,Φ,aR,cx,λw G cx=>(cx.weak λ_ _ _=>trivial).right,λk=>⟨λw G cx=>(cx.weak λ_ _ _=>trivial).right,λw G cx=>?_⟩⟩⟩;have hid:id=(id.toNat:Nat):=by omega
  refine h1 hn k p cap w ?_;have:=cx.left;rw [hid] at this;exact this
theorem y9{r m}(h:(decide (r.role≠1)||decide (m.term≠r.term) || !m.yes)=true):cU r m=(r,jS):=by unfold cU;rw [if_pos h]
def fX(r:dH)(m:bA):dH:={ r with bX:=put r.bX m.src.toNat true }
def gH(r:dH)(m:bA):dH:={ fX r m with role:=2,next:=λ_=>r.log.length+1,cE:=λ_=>0 }
theorem tQ{r m}(h:(decide (r.role≠1)||decide (m.term≠r.term) || !m.yes)=false)(h2:kF (fX r m).bX<2):cU r m=(fX r m,jS):=by
 unfold cU;rw [if_neg (by rw [h];simp)];show (if kF (fX r m).bX<2 then _ else _)=_;rw [if_pos h2];rfl
theorem nG{r m}(h:(decide (r.role≠1)||decide (m.term≠r.term) || !m.yes)=false)(h2:¬ kF (fX r m).bX<2):cU r m=(gH r m,mI (bL (gH r m))):=by
 unfold cU;rw [if_neg (by rw [h];simp)];show (if kF (fX r m).bX<2 then _ else _)=_;rw [if_neg h2];rfl
theorem a34{r}(h:r.Ok)(m):(gH r m).Ok:=by
 have h1:=h.len;exact ⟨h.id,h.kK,h.iD,h.y6,h.y7,h.log,h.len,.inr (.inr rfl),h.aD,λ_ i=>⟨by show 1<=r.log.length+1;omega,Nat.le_refl _,Nat.zero_le _⟩,λi=>⟨by show r.log.length+1<=4001;omega,by show 0<=4000;omega⟩⟩
def wS(v:Nat->Bool):Nat->Nat
 | 0=>0
 | k+1=>wS v k+b2n (v k)
theorem QB(v i):wS v (i+1)=wS v i+b2n (v i):=rfl
set_option maxHeartbeats 1000000 in
theorem a2f{W w S}{Φ:PW}[aB Φ]{b r p c}(cx:Ctx W w (aV b r p c++S) Φ)(hr:r.Ok)(m q qc)(h1:0<=m.src)(h2:m.src<=2){K}(hK:HM W S Φ b (cU r m).1 (cU r m).2 λv w=>K (.returned v) w):aG F.iX #[.pointer (some ⟨b,0,none⟩),m.v q qc] w K:=by
  have hlen:=hr.len;refine iO (xX b 0 m.kind m.src m.to m.term m.index m.prev m.aD m.yes q m.aE.length qc (J:=K∘.returned) cx ?_);refine λ_ _ w G cx=>⟨r.role,cx.get 0 rfl rfl,r.term,λ_=>cx.get 0 rfl rfl,Br.intro (λh=>λw G cx=>?_) (λh=>?_)⟩
  · rw [y9 h] at hK
    exact hK.zero cx.left
  refine ⟨[],λ_ _=>True,aR,λw G cx=>(cx.weak λ_ _ _=>trivial).right,by omega,λw G cx=>⟨cx.can 0 rfl (by simp;omega),λw' hw'=>?_⟩⟩;rw [Nat.zero_add] at hw';have jE:Ctx W w' (aV b (fX r m) p c++S++G) Φ:=gr (lJ (gl cx) hw' (fX r m) (a6x (r:=r) true (by omega)) rfl);refine ⟨_,Φ,aR,jE,λw G cx=>(cx.weak λ_ _ _=>trivial).right,λw G cx=>⟨(fX r m).bX 0,(fX r m).bX 1,(fX r m).bX 2,cx.row 0 rfl (zT (vs:=[.bool ((fX r m).bX 0),.bool ((fX r m).bX 1),.bool ((fX r m).bX 2)]) rfl),?_⟩⟩
  refine dS (λn iI R' aX k=>∃ i:Nat,iI=i/\i<=3/\n=wS (fX r m).bX i/\R'=aV b (fX r m) p c++S/\aX=Φ/\k=3 - i) ⟨⟨_,Φ,_,aR,λw G cx=>cx,0,rfl,Nat.zero_le _,rfl,rfl,rfl,rfl⟩,?_⟩;rintro n iI R1 cL k _ ⟨i,rfl,hi,rfl,rfl,rfl,rfl⟩;have hct:wS (fX r m).bX i<=3:=by
    have:∀ j,wS (fX r m).bX j<=j:=by
      intro j
      induction j with
      | zero=>exact Nat.le_refl _
      | succ j ih => unfold wS; have : b2n ((fX r m).bX j) <= 1 := by unfold b2n; split <;> omega
                     omega
    have:=this i;omega
  refine Br.intro (λhlt=>?_) (λhge=>?_)
  · have hlt:i<3:=by have:=fV hlt;omega
    refine ⟨(fX r m).bX i,⟨by omega,by omega,?_⟩,Br.intro (λhv=>⟨by unfold bE;omega,by unfold bE;omega,_,cL,3 - (i+1),aR,λw G cx=>cx,⟨i+1,rfl,by omega,?_,rfl,rfl,rfl⟩,by omega⟩) (λhv=>⟨by unfold bE;omega,_,cL,3 - (i+1),aR,λw G cx=>cx,⟨i+1,rfl,by omega,?_,rfl,rfl,rfl⟩,by omega⟩)⟩
    · match i,hlt with
      | 0,_=>rfl
      | 1,_=>rfl
      | 2,_=>rfl
    · rw [QB,hv];simp [b2n]
    · rw [QB,hv];simp [b2n]
  · have hge:i=3:=by have:=eV hge;omega
    subst hge;have hc3:wS (fX r m).bX 3=kF (fX r m).bX:=by simp [wS,kF]
    rw [hc3];refine Br.intro (λh2'=>λw G cx=>?_) (λh2'=>λw G cx=>⟨cx.can 0 rfl (by simp),λw' hw'=>?_⟩)
    · have h2':=fV h2'
      rw [tQ h (by omega)] at hK;exact hK.zero cx.left
    have h2':=eV h2';rw [nG h (by omega)] at hK;have jE:Ctx W w' (aV b { fX r m with role:=2 } p c++S++G) cL:=gr (lJ (gl cx) hw' { fX r m with role:=2 } rfl rfl);refine ⟨_,cL,aR,jE,?_⟩;refine dS (λiI R' aX k=>∃ (i:Nat) (nx mt:Nat->Nat),iI=i/\i<=3/\(∀ j,j<i->nx j=r.log.length+1/\mt j=0)/\R'=aV b { fX r m with role:=2,next:=nx,cE:=mt } p c++S/\aX=cL/\k=3 - i) ⟨⟨_,cL,_,aR,λw G cx=>cx,0,r.next,r.cE,rfl,Nat.zero_le _,λj h=>by omega,rfl,rfl,rfl⟩,?_⟩
    rintro iI R2 JG k _ ⟨i,nx,mt,rfl,hi,hnm,rfl,rfl,rfl⟩;refine Br.intro (λhlt=>?_) (λhge=>λw G cx=>?_)
    · have hlt:i<3:=by have:=fV hlt;omega
      refine ⟨[],λ_ _=>True,aR,λw G cx=>(cx.weak λ_ _ _=>trivial).right,λw G cx=>⟨p,r.log.length,c,cx.get 0 rfl rfl,by unfold bE;omega,by omega,λw G cx=>⟨cx.can 0 rfl (by simp;omega),λw' hw'=>?_⟩⟩⟩;rw [Nat.zero_add,Int.toNat_natCast,show ((r.log.length:Int)+1)=((r.log.length+1:Nat):Int) by omega] at hw';have jE:=gr (lJ (gl cx) hw' { fX r m with role:=2,next:=put nx i (r.log.length+1),cE:=mt } (YZ (r:={ fX r m with role:=2,next:=nx,cE:=mt }) (r.log.length+1) hlt) rfl)
      refine ⟨_,JG,aR,jE,λw G cx=>(cx.weak λ_ _ _=>trivial).right,by omega,λw G cx=>⟨cx.can 0 rfl (by simp;omega),λw' hw'=>?_⟩⟩;rw [Nat.zero_add,Int.toNat_natCast] at hw';have jE:=gr (lJ (gl cx) hw' { fX r m with role:=2,next:=put nx i (r.log.length+1),cE:=put mt i 0 } (aBy (r:={ fX r m with role:=2,next:=put nx i (r.log.length+1),cE:=mt }) 0 hlt) rfl);refine ⟨_,JG,aR,jE,λw G cx=>(cx.weak λ_ _ _=>trivial).right,by unfold bE;omega,_,JG,3 - (i+1),aR,λw G cx=>cx,⟨i+1,put nx i (r.log.length+1),put mt i 0,rfl,by omega,λj hj=>?_,rfl,rfl,rfl⟩,by omega⟩
      unfold put;by_cases hji:j=i
      · rw [if_pos hji,if_pos hji];exact ⟨rfl,rfl⟩
      · rw [if_neg hji,if_neg hji];exact hnm j (by omega)
    · have hge:i=3:=by have:=eV hge;omega
      subst hge;have hcells:({ fX r m with role:=2,next:=nx,cE:=mt }:dH).cells p c=(gH r m).cells p c:=by
        simp only [dH.cells,gH,(hnm 0 (by omega)).1,(hnm 1 (by omega)).1,(hnm 2 (by omega)).1,(hnm 0 (by omega)).2,(hnm 1 (by omega)).2,(hnm 2 (by omega)).2]
      have jE:Ctx W w (aV b (gH r m) p c++(S++G)) JG:=by
        have:=gl cx;unfold aV at this;rw [hcells] at this;exact this
      have hlo:=a34 hr m;exact W6 jE hlo (λi hi=>hlo.fit rfl hi) λq cap w h1 h2 cx=>⟨q,_,cap,rfl,aV b (gH r m) p c++S,λM w=>JG M w/\Sl M w q (bL (gH r m)),aR,gr cx,λw G cx=>hK.sent h1 h2 (Ctx.left (F:=G) (Φ:=λM w=>JG M w/\Sl M w q (bL (gH r m))) cx)⟩
def N7(r:dH)(l:List Nat):Nat:=l.foldl (λa i=>max a (r.cE i)) 0
theorem a6C{r}{l:List Nat}{i}(h:i<l.length):N7 r (l.take (i+1))=max (N7 r (l.take i)) (r.cE l[i]):=by
 unfold N7;rw [List.take_succ_eq_append_getElem h,List.foldl_append];rfl
theorem a2g{r n}(h:∀ i,r.cE i<=n)(l):N7 r l<=n:=by
 have:∀ (l:List Nat) (a:Nat),a<=n->l.foldl (λa i=>max a (r.cE i)) a<=n:=by
  intro l
  induction l with
  | nil=>intro a h;exact h
  | cons x l ih=>intro a ha;exact ih _ (Nat.max_le.2 ⟨ha,h x⟩)
 exact this l 0 (Nat.zero_le _)
set_option maxHeartbeats 1000000 in
theorem a6D{W w S}{Φ:PW}[aB Φ]{b r p c}(cx:Ctx W w (aV b r p c++S) Φ)(hid:r.id<=2)(hlen:r.log.length<=4000)(hm:∀ i,r.cE i<=r.log.length){K}(hK:∀ w',Ctx W w' (aV b (aQ r) p c++S) Φ->K (.returned (.tuple #[])) w'):aG F.kD #[.pointer (some ⟨b,0,none⟩)] w K:=by
 have hol:=pX r.id;refine iO (vL b 0 (J:=K∘.returned) cx ?_);refine λw G cx=>N3 hid (gl cx) λk rest w cx=>⟨some ⟨k,0,none⟩,2,3,rfl,aV b r p c++(.blk k ((aL r.id).map (λx:Nat=>kN (x:Int))++rest) 3 :: S),Φ,aR,gr (Q:=aV b r p c) (T:=.blk k ((aL r.id).map (λx:Nat=>kN (x:Int))++rest) 3 :: S) (mid cx),?_⟩;refine dS (λn iI R' aX m=>∃ i:Nat,iI=i/\i<=2/\n=N7 r ((aL r.id).take i)/\R'=aV b r p c++(.blk k ((aL r.id).map (λx:Nat=>kN (x:Int))++rest) 3 :: S)/\aX=Φ/\m=2 - i) ⟨⟨_,Φ,_,aR,λw G cx=>cx,0,rfl,Nat.zero_le _,rfl,rfl,rfl,rfl⟩,?_⟩
 rintro n iI R1 cL m _ ⟨i,rfl,hi,rfl,rfl,rfl,rfl⟩;refine Br.intro (λhlt=>?_) (λhge=>λw G cx=>?_)
 .have hlt:i<2:=by have:=fV hlt;omega
  have hio:i<(aL r.id).length:=by omega
  have hn3:=(CC _ (List.getElem_mem hio)).1;refine ⟨by omega,bF k 0 rfl λw G cx=>⟨((aL r.id)[i]:Nat),?_,by omega,λw G cx=>⟨(r.cE (aL r.id)[i]:Nat),?_,by unfold bE;omega,_,cL,2 - (i+1),aR,λw G cx=>cx,⟨i+1,rfl,by omega,?_,rfl,rfl,rfl⟩,by omega⟩⟩⟩
  .rw [Int.toNat_natCast,Nat.zero_add];refine cx.get 2 rfl ?_;rw [List.getElem?_append_left (by rw [List.length_map];omega),List.getElem?_map,List.getElem?_eq_getElem hio];rfl
  .rw [Int.toNat_natCast,Nat.zero_add];exact cx.get 0 rfl (JQ hn3)
  .rw [a6C hio];omega
 .have hge:i=2:=by have:=eV hge;omega
  subst hge;have htk:(aL r.id).take 2=aL r.id:=by rw [<-hol,List.take_length]
  rw [htk];have hml:=a2g hm (aL r.id);have z7:∀ {w:World} {G:List Own} {r':dH},Ctx W w (aV b r' p c++(.blk k ((aL r.id).map (λx:Nat=>kN (x:Int))++rest) 3 :: S)++G) cL->Ctx W w (aV b r' p c++S) cL:=λcx=>(front cx.left).drop1;refine ⟨r.aD,cx.get 0 rfl rfl,_,λ_ w' hw=>a3Y (DX (gl cx)) rfl hml hlen hw,r.term,λ_=>cx.get 0 rfl rfl,Br.intro (λh=>λw G cx=>⟨cx.can 0 rfl (by simp),λw' hw'=>?_⟩) (λh=>λw G cx=>?_)⟩
  .have ha:aQ r={ r with aD:=lI r }:=by
    unfold aQ;rw [if_pos];simp only [Bool.and_eq_true,decide_eq_true_eq] at h ⊢;exact ⟨by have:=h.1;show r.aD<N7 r (aL r.id);omega,h.2⟩
   rw [ha] at hK;have jE:=gr (lJ (gl cx) hw' { r with aD:=lI r } rfl rfl);exact ⟨_,cL,aR,jE,λw G cx=>hK w (z7 cx)⟩
  .have ha:aQ r=r:=by
    unfold aQ;rw [if_neg];intro h';simp only [Bool.and_eq_true,decide_eq_true_eq,Bool.and_eq_false_iff,decide_eq_false_iff_not] at h h';rcases h with h|h
    .have:=h'.1;change r.aD<N7 r (aL r.id) at this;omega
    .exact h h'.2
   rw [ha] at hK;exact hK w (z7 cx)
def mQ(r:dH)(m:bA):dH:={ r with next:=put r.next m.src.toNat (max (r.cE m.src.toNat+1) (min (r.next m.src.toNat - 1) (m.index.toNat+1))) }
def dQ(r:dH)(m:bA):dH:={ r with cE:=put r.cE m.src.toNat (max (r.cE m.src.toNat) m.index.toNat),next:=put r.next m.src.toNat (max (r.cE m.src.toNat) m.index.toNat+1) }
theorem nH{r m}(h:(decide (r.role≠2)||decide (m.term≠r.term)||m.yes&&decide ((r.log.length:Int)<m.index))=true):aW r m=(r,jS):=by unfold aW;rw [if_pos h]
theorem jN{r m}(h:(decide (r.role≠2)||decide (m.term≠r.term)||m.yes&&decide ((r.log.length:Int)<m.index))=false)(hy:m.yes=false):aW r m=(mQ r m,mI [entriesOf (mQ r m) m.src.toNat]):=by
 unfold aW;rw [if_neg (by rw [h];simp)];simp only [hy,if_true];rfl
theorem jF{r m}(h:(decide (r.role≠2)||decide (m.term≠r.term)||m.yes&&decide ((r.log.length:Int)<m.index))=false)(hy:m.yes=true):
  aW r m=if max (r.cE m.src.toNat) m.index.toNat+1<=r.log.length then (aQ (dQ r m),mI [entriesOf (aQ (dQ r m)) m.src.toNat]) else (aQ (dQ r m),jS):=by
 unfold aW;rw [if_neg (by rw [h];simp)];simp only [hy,Bool.true_eq_false,if_false];rfl
theorem aBA{r}(h:r.Ok)(hr:r.role=2)(m):(mQ r m).Ok:=by
 have h1:=h.len;have h2:=h.next hr m.src.toNat;refine ⟨h.id,h.kK,h.iD,h.y6,h.y7,h.log,h.len,h.role,h.aD,λ_ i=>?_,λi=>?_⟩
 .have h3:=h.next hr i;show 1<=put r.next _ _ i/\put r.next _ _ i<=r.log.length+1/\r.cE i<=r.log.length;unfold put;split
  .omega
  .exact h3
 .have h3:=h.next hr i;show put r.next _ _ i<=4001/\r.cE i<=4000;unfold put;split<;>omega
theorem aG9{r}(h:r.Ok)(hr:r.role=2)(m)(hm:m.index.toNat<=r.log.length):(dQ r m).Ok:=by
 have h1:=h.len;have h2:=h.next hr m.src.toNat;refine ⟨h.id,h.kK,h.iD,h.y6,h.y7,h.log,h.len,h.role,h.aD,λ_ i=>?_,λi=>?_⟩
 .have h3:=h.next hr i;show 1<=put r.next _ _ i/\put r.next _ _ i<=r.log.length+1/\put r.cE _ _ i<=r.log.length;unfold put;split
  .omega
  .exact h3
 .have h3:=h.next hr i;show put r.next _ _ i<=4001/\put r.cE _ _ i<=4000;unfold put;split<;>omega
theorem aHa{r}(h:r.Ok)(hr:r.role=2):(aQ r).Ok:=by
 unfold aQ;split
 .refine ⟨h.id,h.kK,h.iD,h.y6,h.y7,h.log,h.len,h.role,?_,h.next,h.bound⟩;exact a2g (λi=>(h.next hr i).2.2) (aL r.id)
 .exact h
theorem vN(r):(aQ r).role=r.role/\(aQ r).log=r.log/\(aQ r).next=r.next/\(aQ r).cE=r.cE/\(aQ r).id=r.id/\(aQ r).term=r.term/\(aQ r).aK=r.aK:=by
 unfold aQ;split<;>exact ⟨rfl,rfl,rfl,rfl,rfl,rfl,rfl⟩
set_option maxHeartbeats 1000000 in
theorem HO{W w S G}{Φ:PW}[aB Φ]{b r p c q cap n}(cx:Ctx W w (aV b r p c++S++G) (λM w=>Φ M w/\Sl M w q (entriesOf r n).aE))(hm:(entriesOf r n).Ok)(h1:(entriesOf r n).aE.length<=cap)(h2:cap<=maxLen){K}(hK:HM W S Φ b r (mI [entriesOf r n]) K){K2}(hk2:∀ q w',Ctx W w' (aV b r p c++S++G) (λM w=>Φ M w/\Sl M w q [entriesOf r n])->(∀ w G',Ctx W w (aV b r p c++S++G') (λM w=>Φ M w/\Sl M w q [entriesOf r n])->K (VT (mI [entriesOf r n]) none 0 q 1) w)->K2 (.returned (VT (mI [entriesOf r n]) none 0 q 1)) w'):
  aG F.eY #[(entriesOf r n).v q cap] w K2:=by
 have hst:aB (λM w=>Φ M w/\Sl M w q (entriesOf r n).aE):=aR;refine YY cx (entriesOf r n) q cap hm h1 h2 (λM w h=>h.2) λq2 w cx=>hk2 q2 w (cx.weak λM w h=>⟨h.1.1,h.2⟩) λw G' cx=>?_;have hst:aB (λM w=>Φ M w/\Sl M w q2 [entriesOf r n]):=aR;exact hK.sent (by simp) (by simp [maxLen]) (Ctx.left (F:=G') cx)
set_option maxHeartbeats 1000000 in
theorem QC{W w S}{Φ:PW}[aB Φ]{b r p c}(cx:Ctx W w (aV b r p c++S) Φ)(hr:r.Ok)(m q qc)(h1:0<=m.src)(h2:m.src<=2)(h3:0<=m.index)(h4:m.index<=4000){K}(hK:HM W S Φ b (aW r m).1 (aW r m).2 λv w=>K (.returned v) w):aG F.gI #[.pointer (some ⟨b,0,none⟩),m.v q qc] w K:=by
 have hlen:=hr.len;have hsr:m.src=(m.src.toNat:Nat):=by omega
 have hs3:m.src.toNat<3:=by omega
 refine iO (uO b 0 m.kind m.src m.to m.term m.index m.prev m.aD m.yes q m.aE.length qc (J:=K∘.returned) cx ?_);refine λ_ _ w G cx=>⟨r.role,cx.get 0 rfl rfl,r.term,λ_=>cx.get 0 rfl rfl,p,r.log.length,c,λ_=>cx.get 0 rfl rfl,Br.intro (λh=>λw G cx=>?_) (λh=>λw G cx=>⟨by omega,by omega,Br.intro (λhy=>λw G cx=>?_) (λhy=>λw G cx=>?_)⟩)⟩
 .rw [nH h] at hK;exact hK.zero cx.left
 .have hy:m.yes=false:=by simpa using hy
  rw [jN h hy] at hK;have cP:r.role=2:=by
   simp only [Bool.or_eq_false_iff,decide_eq_false_iff_not] at h;exact Decidable.not_not.1 h.1.1
  have hn:=hr.next cP m.src.toNat;have hbo:=aBA hr cP m;refine ⟨(r.cE m.src.toNat:Nat),by rw [Nat.zero_add];exact cx.get 0 rfl (JQ hs3),λw G cx=>⟨(r.next m.src.toNat:Nat),by rw [Nat.zero_add];exact cx.get 0 rfl (N5 hs3),by unfold bE;omega,by unfold bE;omega,by unfold bE;omega,λw G cx=>⟨cx.can 0 rfl (by simp;omega),λw' hw'=>?_⟩⟩⟩;have hval:max ((r.cE m.src.toNat:Int)+1) (min ((r.next m.src.toNat:Int) - 1) (m.index+1))=((max (r.cE m.src.toNat+1) (min (r.next m.src.toNat - 1) (m.index.toNat+1)):Nat):Int):=by omega
  rw [Nat.zero_add,hval] at hw';have jE:Ctx W w' (aV b (mQ r m) p c++S++G) Φ:=gr (lJ (gl cx) hw' (mQ r m) (YZ (r:=r) _ hs3) rfl);refine ⟨_,Φ,aR,jE,λw G cx=>?_⟩;refine HL (gl cx) hbo.aE m.src.toNat hsr (hbo.fit cP hs3) λq2 cap2 w g1 g2 cx=>?_;have hst:aB (λM w=>Φ M w/\Sl M w q2 (entriesOf (mQ r m) m.src.toNat).aE):=aR;refine ⟨_,_,_,_,_,_,_,_,q2,_,cap2,rfl,aV b (mQ r m) p c++S,λM w=>Φ M w/\Sl M w q2 (entriesOf (mQ r m) m.src.toNat).aE,hst,gr cx,λw G cx=>?_⟩
  refine HO cx (DY hbo (hbo.fit cP hs3)) g1 g2 hK λq3 w cx z7=>⟨_,_,_,_,none,_,0,q3,_,1,rfl,aV b (mQ r m) p c++S,λM w=>Φ M w/\Sl M w q3 [entriesOf (mQ r m) m.src.toNat],aR,cx,λw G cx=>z7 w G cx⟩
 .have hy:m.yes=true:=by simpa using hy
  rw [jF h hy] at hK;simp only [Bool.or_eq_false_iff,decide_eq_false_iff_not,hy,Bool.true_and] at h;have cP:r.role=2:=Decidable.not_not.1 h.1.1;have hix:m.index.toNat<=r.log.length:=by have:=h.2;omega
  have hn:=hr.next cP m.src.toNat;have hfo:=aG9 hr cP m hix;obtain ⟨e1,e2,e3,e4,e5,e6,e7⟩:=vN (dQ r m);have hao:=aHa hfo cP;refine ⟨(r.cE m.src.toNat:Nat),by rw [Nat.zero_add];exact cx.get 0 rfl (JQ hs3),λw G cx=>⟨cx.can 0 rfl (by simp;omega),λw' hw'=>?_⟩⟩;have hval:max (r.cE m.src.toNat:Int) m.index=((max (r.cE m.src.toNat) m.index.toNat:Nat):Int):=by omega
  rw [Nat.zero_add,hval] at hw';have jE:=gr (lJ (gl cx) hw' { r with cE:=put r.cE m.src.toNat (max (r.cE m.src.toNat) m.index.toNat) } (aBy (r:=r) _ hs3) rfl);have N8:({ r with cE:=put r.cE m.src.toNat (max (r.cE m.src.toNat) m.index.toNat) }:dH).cE m.src.toNat=max (r.cE m.src.toNat) m.index.toNat:=by simp [put]
  refine ⟨_,Φ,aR,jE,λw G cx=>⟨((max (r.cE m.src.toNat) m.index.toNat:Nat):Int),?_,by unfold bE;omega,λw G cx=>⟨cx.can 0 rfl (by simp;omega),λw' hw'=>?_⟩⟩⟩
  .rw [Nat.zero_add];have:=cx.get 0 rfl (JQ (r:={ r with cE:=put r.cE m.src.toNat (max (r.cE m.src.toNat) m.index.toNat) }) (p:=p) (c:=c) hs3);rw [N8] at this;exact this
  rw [Nat.zero_add,show (((max (r.cE m.src.toNat) m.index.toNat:Nat):Int)+1)=((max (r.cE m.src.toNat) m.index.toNat+1:Nat):Int) by omega] at hw';have jE:Ctx W w' (aV b (dQ r m) p c++S++G) Φ:=gr (lJ (gl cx) hw' (dQ r m) (YZ (r:={ r with cE:=put r.cE m.src.toNat (max (r.cE m.src.toNat) m.index.toNat) }) _ hs3) rfl);refine ⟨_,Φ,aR,jE,λw G cx=>a6D (gl cx) hr.id hlen (λi=>(hfo.next cP i).2.2) λw cx=>⟨rfl,aV b (aQ (dQ r m)) p c++S,Φ,aR,gr cx,λw G cx=>⟨((max (r.cE m.src.toNat) m.index.toNat+1:Nat):Int),?_,p,(aQ (dQ r m)).log.length,c,cx.get 0 rfl rfl,Br.intro (λhle=>λw G cx=>?_) (λhle=>λw G cx=>?_)⟩⟩⟩
  .rw [Nat.zero_add];have:=cx.get 0 rfl (N5 (r:=aQ (dQ r m)) (p:=p) (c:=c) hs3);rw [e3] at this;have e8:(dQ r m).next m.src.toNat=max (r.cE m.src.toNat) m.index.toNat+1:=by simp [dQ,put]
   rw [e8] at this;exact this
  .have hle:=fV hle;rw [e2] at hle;have hle:max (r.cE m.src.toNat) m.index.toNat+1<=r.log.length:=by
    have:(dQ r m).log=r.log:=rfl;rw [this] at hle;omega
   rw [if_pos hle] at hK;have hro:(aQ (dQ r m)).role=2:=by rw [e1];exact cP
   refine HL (gl cx) hao.aE m.src.toNat hsr (hao.fit hro hs3) λq2 cap2 w g1 g2 cx=>?_;have hst:aB (λM w=>Φ M w/\Sl M w q2 (entriesOf (aQ (dQ r m)) m.src.toNat).aE):=aR;refine ⟨_,_,_,_,_,_,_,_,q2,_,cap2,rfl,aV b (aQ (dQ r m)) p c++S,λM w=>Φ M w/\Sl M w q2 (entriesOf (aQ (dQ r m)) m.src.toNat).aE,hst,gr cx,λw G cx=>?_⟩;refine HO cx (DY hao (hao.fit hro hs3)) g1 g2 hK λq3 w cx z7=>⟨_,_,_,_,none,_,0,q3,_,1,rfl,aV b (aQ (dQ r m)) p c++S,λM w=>Φ M w/\Sl M w q3 [entriesOf (aQ (dQ r m)) m.src.toNat],aR,cx,λw G cx=>z7 w G cx⟩
  .have hle:=eV hle;rw [e2] at hle;have hle:¬ max (r.cE m.src.toNat) m.index.toNat+1<=r.log.length:=by
    have:(dQ r m).log=r.log:=rfl;rw [this] at hle;omega
   rw [if_neg hle] at hK;exact hK.zero cx.left
abbrev CE:List Value:=[.bool false,.int .i64 0,.int .i64 0,.int .i64 0,.slice none 0 0,.slice none 0 0]
def iU(r:dH)(data:ByteArray):dH:={ r with log:=r.log++[⟨r.term,data⟩] }
theorem wT{r data}(h:r.role≠2):aF r data=(r,0,24,jS):=by unfold aF;rw [if_pos h]
theorem uR{r data}(h:¬ r.role≠2)(h2:2000<(data.size:Int)):aF r data=(r,0,1,jS):=by unfold aF;rw [if_neg h,if_pos h2]
theorem qI{r data}(h:¬ r.role≠2)(h2:¬ 2000<(data.size:Int))(h3:r.log.length=4000):aF r data=(r,0,6,jS):=by unfold aF;rw [if_neg h,if_neg h2,if_pos h3]
theorem rL{r data}(h:¬ r.role≠2)(h2:¬ 2000<(data.size:Int))(h3:¬ r.log.length=4000):
  aF r data=(iU r data,((r.log.length+1:Nat):Int),0,⟨false,0,0,((r.log.length+1:Nat):Int),[⟨r.term,data⟩],bL (iU r data)⟩):=by unfold aF;rw [if_neg h,if_neg h2,if_neg h3];rfl
theorem a6E{l t x}(h:kH l t)(h1:1<=x.term)(h2:x.term<=t)(h3:x.data.size<=2000)(h4:∀ y∈l,y.term<=x.term):kH (l++[x]) t:=by
 refine ⟨λy hy=>?_,λy hy=>?_,λy hy=>?_,λi j hij hj hi=>?_⟩
 .rcases List.mem_append.1 hy with hy|hy
  .exact h.lo y hy
  .rw [List.mem_singleton.1 hy];exact h1
 .rcases List.mem_append.1 hy with hy|hy
  .exact h.hi y hy
  .rw [List.mem_singleton.1 hy];exact h2
 .rcases List.mem_append.1 hy with hy|hy
  .exact h.data y hy
  .rw [List.mem_singleton.1 hy];exact h3
 .rw [List.length_append,List.length_singleton] at hj hi;by_cases hjl:j<l.length
  .rw [List.getElem_append_left (by omega),List.getElem_append_left hjl];exact h.N1 i j hij hjl (by omega)
  .have hj':j=l.length:=by omega
   subst hj';rw [List.getElem_append_right (Nat.le_refl _)];simp only [Nat.sub_self,List.getElem_cons_zero];by_cases hil:i<l.length
   .rw [List.getElem_append_left hil];exact h4 _ (List.getElem_mem hil)
   .have:i=l.length:=by omega
    subst this;rw [List.getElem_append_right (Nat.le_refl _)];simp
theorem a6F{r data}(h:r.Ok)(hr:r.role=2)(ht:1<=r.term)(h2:¬ 2000<(data.size:Int))(h3:¬ r.log.length=4000):(iU r data).Ok:=by
 have hl:=h.len;have hlen:(iU r data).log.length=r.log.length+1:=by simp [iU]
 refine ⟨h.id,h.kK,h.iD,h.y6,h.y7,?_,by rw [hlen];omega,h.role,by rw [hlen];have:=h.aD;show r.aD<=_;omega,λ_ i=>?_,λi=>?_⟩
 .exact a6E h.log ht (Int.le_refl _) (by simp only;omega) h.log.hi
 .have:=h.next hr i;rw [hlen];show 1<=r.next i/\r.next i<=r.log.length+1+1/\r.cE i<=r.log.length+1;omega
 .exact h.bound i
set_option maxHeartbeats 2000000 in
theorem a6G{W w S}{Φ:PW}[aB Φ]{b r p c}(cx:Ctx W w (aV b r p c++S) Φ)(hr:r.Ok)(ht:r.role=2->1<=r.term)(data){K}(hK:HM W S Φ b (aF r data).1 (aF r data).2.2.2 λv w=>K (.returned (.tuple #[.int .i64 (aF r data).2.1,.int .i64 (aF r data).2.2.1,v])) w):aG F.jW #[.pointer (some ⟨b,0,none⟩),.string data] w K:=by
 have hlen:=hr.len;refine iO (vH b 0 data (J:=K∘.returned) cx ?_);refine λk0 w G cx=>⟨r.role,cx.get 1 rfl rfl,Br.intro (λh=>λw G cx=>⟨cx.can 0 rfl (by simp),λw' hw'=>?_⟩) (λh=>Br.intro (λh2=>λw G cx=>⟨cx.can 0 rfl (by simp),λw' hw'=>?_⟩) (λh2=>λw G cx=>⟨p,r.log.length,c,cx.get 1 rfl rfl,Br.intro (λh3=>λw G cx=>⟨cx.can 0 rfl (by simp),λw' hw'=>?_⟩) (λh3=>λw G cx=>⟨r.term,cx.get 1 rfl rfl,λ_=>?_⟩)⟩))⟩
 .rw [wT (fV h)] at hK;have jE:Ctx W w' (.blk k0 CE 146 :: (aV b r p c++S)++G) Φ:=cx.FR 0 hw' rfl;exact ⟨_,Φ,aR,jE,λw G cx=>⟨_,_,_,_,none,_,0,none,_,0,cx.EO 0 rfl,λw G cx=>hK.zero cx.left.drop1⟩⟩
 .rw [uR (eV h) (fV h2)] at hK;have jE:Ctx W w' (.blk k0 CE 146 :: (aV b r p c++S)++G) Φ:=cx.FR 0 hw' rfl;exact ⟨_,Φ,aR,jE,λw G cx=>⟨_,_,_,_,none,_,0,none,_,0,cx.EO 0 rfl,λw G cx=>hK.zero cx.left.drop1⟩⟩
 .rw [qI (eV h) (eV h2) (by have:=fV h3;omega)] at hK;have jE:Ctx W w' (.blk k0 CE 146 :: (aV b r p c++S)++G) Φ:=cx.FR 0 hw' rfl;exact ⟨_,Φ,aR,jE,λw G cx=>⟨_,_,_,_,none,_,0,none,_,0,cx.EO 0 rfl,λw G cx=>hK.zero cx.left.drop1⟩⟩
 have h:=eV h;have h2:=eV h2;have h3':¬ r.log.length=4000:=λe=>(eV h3) (by omega);have cP:r.role=2:=Decidable.not_not.1 h;rw [rL h h2 h3'] at hK;have hpo:=a6F hr cP (ht cP) h2 h3';have hpl:(iU r data).log.length=r.log.length+1:=by simp [iU]
 refine ⟨[.blk b (r.cells p c) 278],λ_ _=>True,aR,λw G cx=>(cx.weak λ_ _ _=>trivial).sub (List.Sublist.cons _ (List.Sublist.cons_cons _ (List.Sublist.cons _ (List.sublist_append_right _ _)))),p,r.log.length,c,λw G cx=>⟨p,r.log.length,c,cx.get 0 rfl rfl,rfl⟩,λk1=>⟨λw G cx=>(cx.weak λ_ _ _=>trivial).sub (List.Sublist.cons _ (List.Sublist.cons _ (List.Sublist.cons_cons _ (List.Sublist.cons _ (List.sublist_append_right _ _))))),λw G cx=>?_⟩⟩
 have jE:Ctx W w (.blk k1 [.int .i64 r.term,.string data] 216 :: .buf p r.log.length c (bD r.log) 216 2 :: ([.blk k0 CE 146,.blk b (r.cells p c) 278]++(S++G))) Φ :=
  cx.perm (List.Perm.cons _ (List.perm_middle (l₁:=[Own.blk k0 CE 146,Own.blk b (r.cells p c) 278])))
 obtain ⟨p',cap',w',hrun,_,cx'⟩:=Ctx.YQ (P:=prog) (ts:=99) (ty:=99) (kb:=#[false,false]) (size:=2) (bytes:=24) jE (by kernel_rfl) (by omega) rfl rfl (by omega) (by omega);refine ⟨p',r.log.length+1,cap',w',hrun,.buf p' (r.log.length+1) cap' (bD r.log++[Value.int .i64 r.term,Value.string data]) 216 2 :: .blk k0 CE 146 :: .blk b (r.cells p c) 278 :: S,Φ,aR,cx',λw G cx=>(cx.weak λ_ _ _=>trivial).sub (List.Sublist.cons _ (List.Sublist.cons _ (List.Sublist.cons_cons _ (List.sublist_append_right _ _)))),λw G cx=>⟨cx.can 2 rfl (by simp),λw' hw'=>?_⟩⟩
 have hc:(r.cells p c).set 3 (.slice p' (r.log.length+1) cap')=(iU r data).cells p' cap':=by simp [dH.cells,iU]
 have hb:bD r.log++[.int .i64 r.term,.string data]=bD (iU r data).log:=by
  show _=bD (r.log++[⟨r.term,data⟩]);rw [Q6];rfl
 have jE:Ctx W w' (aV b (iU r data) p' cap'++.blk k0 CE 146 :: S++G) Φ:=by
  have h1:Ctx W w' (.buf p' (r.log.length+1) cap' (bD r.log++[.int .i64 r.term,.string data]) 216 2 :: .blk k0 CE 146 :: .blk b ((r.cells p c).set 3 (.slice p' (r.log.length+1) cap')) 278 :: S++G) Φ:=cx.put 2 hw' rfl;rw [hc,hb,<-hpl] at h1;exact h1.perm (List.perm_middle (l₁:=[Own.buf p' (iU r data).log.length cap' (bD (iU r data).log) 216 2,Own.blk k0 CE 146]))
 generalize HP:iU r data=r1 at *;have hfit:∀ i,i<3->Fit r1 i:=λi hi=>hpo.fit (by rw [<-HP];exact cP) hi;have hst:∀ q,aB (λM w=>Φ M w/\Sl M w q (bL r1)):=λq=>aR;have hal:(bL r1).length=2:=by unfold bL;rw [List.length_map,pX]
 have tail:∀ (k:Nat) (q:Option Addr) (cap:Nat),(bL r1).length<=cap->cap<=maxLen->∀ (w:World) (G:List Own),Ctx W w (.blk k [.int .i64 r.term,.string data] 216 :: (aV b r1 p' cap'++.blk k0 CE 146 :: S)++G) (λM w=>Φ M w/\Sl M w q (bL r1)) ->
   aH w k0 0 6/\∀ w',w'=w.setCells k0 0 [.bool false,.int .i64 0,.int .i64 0,.int .i64 (r1.log.length:Nat),.slice (some (Addr.mk k 0 none)) 1 1,.slice q (bL r1).length cap] ->
    ∃ (R:List Own) (aX:PW),aB aX/\Ctx W w' (R++G) aX/\(∀ (w:World) (F':List Own),Ctx W w (R++F') aX->Ctx W w ([.blk b (r1.cells p' cap') 278]++F') (λ_ _=>True)) /\
     ∀ (w:World) (F':List Own),Ctx W w (R++F') aX->∃ (c1:Bool) (n1 n2 n3:Int) (p1:Option Addr) (k1 k2:Nat) (p2:Option Addr) (k3 k4:Nat),bT w k0 0 [.bool c1,.int .i64 n1,.int .i64 n2,.int .i64 n3,.slice p1 k1 k2,.slice p2 k3 k4] /\
      ∀ (w:World) (F':List Own),Ctx W w (R++F') aX->K (.returned (.tuple #[.int .i64 (r1.log.length:Nat),.int .i64 0,.agg #[.bool c1,.int .i64 n1,.int .i64 n2,.int .i64 n3,.slice p1 k1 k2,.slice p2 k3 k4]])) w:=by
  intro k q cap hcap hmax w G cx;refine ⟨cx.can 3 rfl (by simp),λw' hw'=>?_⟩;have x9:=cx.FR 3 hw' rfl;refine ⟨.blk k [.int .i64 r.term,.string data] 216 :: (aV b r1 p' cap'++.blk k0 [.bool false,.int .i64 0,.int .i64 0,.int .i64 (r1.log.length:Nat),.slice (some (Addr.mk k 0 none)) 1 1,.slice q (bL r1).length cap] 146 :: S),_,hst q,x9,λw G cx=>(cx.weak λ_ _ _=>trivial).sub (List.Sublist.cons _ (List.Sublist.cons_cons _ (List.Sublist.cons _ (List.Sublist.cons _ (List.sublist_append_right _ _))))),λw G cx=>⟨_,_,_,_,_,_,_,_,_,_,cx.EO 3 rfl,λw G cx=>?_⟩⟩
  have hxo:((⟨r.term,data⟩:bH)).Ok:=⟨by have:=hr.kK;have:=hr.iD;show bE r.term;unfold bE;omega,by show data.size<=maxLen;unfold maxLen;omega⟩;have:=hst q;obtain ⟨QA,hs⟩:=cx.left.BZ (α:=bH) (l:=[⟨r.term,data⟩]) (dR.one (aBw hxo));have cx4:=(front (QA.add (Ψ:=λM w=>Sl M w (some ⟨k,0,none⟩) [(⟨r.term,data⟩:bH)]) hs)).drop1;have:=hK p' cap' (some ⟨k,0,none⟩) 1 q cap w (by simp) (by simp [maxLen]) hcap hmax (cx4.weak λM w h=>⟨h.1.1,h.2,h.1.2⟩)
  rw [hpl];exact this
 refine ⟨_,Φ,aR,jE,[.blk b (r1.cells p' cap') 278],λ_ _=>True,aR,λw G cx=>(cx.weak λ_ _ _=>trivial).sub (List.Sublist.cons_cons _ (List.Sublist.cons _ (List.Sublist.cons _ (List.sublist_append_right _ _)))),p',r1.log.length,cap',λw G cx=>⟨p',r1.log.length,cap',cx.get 0 rfl rfl,rfl⟩,p',r1.log.length,cap',λw G cx=>⟨p',r1.log.length,cap',cx.get 0 rfl rfl,rfl⟩,⟨λk2=>⟨λw G cx=>(cx.weak λ_ _ _=>trivial).sub (List.Sublist.cons _ (List.Sublist.cons_cons _ (List.Sublist.cons _ (List.Sublist.cons _ (List.sublist_append_right _ _))))),λw G cx=>?_,trivial⟩,λw G cx=>?_,trivial⟩⟩
 .have cx5:Ctx W w (.blk k2 [.int .i64 r.term,.string data] 216 :: (aV b r1 p' cap'++(.blk k0 CE 146 :: (S++G)))) Φ:=cx.re (by simp);refine W6 (mid cx5) hpo hfit λq cap w g1 g2 cx=>⟨q,_,cap,rfl,.blk k2 [.int .i64 r.term,.string data] 216 :: (aV b r1 p' cap'++.blk k0 CE 146 :: S),_,hst q,?_,λw G cx=>(cx.weak λ_ _ _=>trivial).sub (List.Sublist.cons _ (List.Sublist.cons_cons _ (List.Sublist.cons _ (List.Sublist.cons _ (List.sublist_append_right _ _))))),λw G cx=>tail k2 q cap g1 g2 w G cx,trivial⟩
  have:=hst q;exact (front cx).re (by simp)
 .refine W6 (gl cx) hpo hfit λq cap w g1 g2 cx=>⟨q,_,cap,rfl,aV b r1 p' cap'++.blk k0 CE 146 :: S,_,hst q,gr cx,λw G cx=>(cx.weak λ_ _ _=>trivial).sub (List.Sublist.cons_cons _ (List.Sublist.cons _ (List.Sublist.cons _ (List.sublist_append_right _ _)))),λk2=>⟨λw G cx=>(cx.weak λ_ _ _=>trivial).sub (List.Sublist.cons _ (List.Sublist.cons_cons _ (List.Sublist.cons _ (List.Sublist.cons _ (List.sublist_append_right _ _))))),λw G cx=>tail k2 q cap g1 g2 w G cx,trivial⟩,trivial⟩
theorem HQ:∀ a b:List bH,agree a b<=b.length
 | [],b=>by cases b<;>simp [agree]
 | x :: a,[]=>by simp [agree]
 | x :: a,y :: b=>by
  unfold agree;split
  .have:=HQ a b;simp only [List.length_cons];omega
  .simp
theorem HR:∀ a b:List bH,agree a b<=a.length
 | [],b=>by cases b<;>simp [agree]
 | x :: a,[]=>by simp [agree]
 | x :: a,y :: b=>by
  unfold agree;split
  .have:=HR a b;simp only [List.length_cons];omega
  .simp
theorem Z1{l rs:List bH}{n j}(hj:j<rs.length):agree (l.drop (n+j)) (rs.drop j)=if (decide (n+j<l.length)&&decide (aU l (n+j+1)=rs[j].term))=true then agree (l.drop (n+j+1)) (rs.drop (j+1))+1 else 0:=by
 rw [List.drop_eq_getElem_cons hj];by_cases h:n+j<l.length
 .rw [List.drop_eq_getElem_cons h,decide_eq_true h,Bool.true_and,gR h];by_cases ht:l[n+j].term=rs[j].term
  .rw [if_pos (decide_eq_true ht)];simp [agree,ht]
  .rw [if_neg (by simp [ht])];simp [agree,ht]
 .rw [decide_eq_false h,Bool.false_and,if_neg (by simp),List.drop_eq_nil_of_le (by omega)];rfl
theorem pY{r m}(h:m.term<r.term):b9 r m=(r,mI [mP r 3 m.src]):=by unfold b9;rw [if_pos h]
theorem nJ{r m}(h:¬ m.term<r.term)(h2:r.role=2):b9 r m=(r,jS):=by unfold b9;rw [if_neg h,if_pos h2]
def vO(r:dH):dH:={ r with role:=0 }
def HT(r:dH)(m:bA):bA:=⟨3,r.id,m.src,r.term,min (r.log.length:Int) (m.index - 1),0,0,false,[]⟩
theorem pZ{r m}(h:¬ m.term<r.term)(h2:¬ r.role=2)(h3:(decide ((r.log.length:Int)<m.index)||decide (aU r.log m.index.toNat≠m.prev))=true):b9 r m=(vO r,mI [HT r m]):=by unfold b9;rw [if_neg h,if_neg h2];simp only;rw [if_pos h3];rfl
def a1m(r:dH)(m:bA):Nat:=max r.aD (min m.aD.toNat (m.index.toNat+m.aE.length))
def eM(r:dH)(m:bA):Nat:=agree (r.log.drop m.index.toNat) m.aE
def Z2(r:dH)(m:bA):dH:={ r with role:=0,aD:=a1m r m }
def E0(r:dH)(m:bA)(k:Nat):dH:={ r with role:=0,log:=r.log.take (m.index.toNat+k)++m.aE.drop k,aD:=a1m r m }
theorem kV{r m}(h:¬ m.term<r.term)(h2:¬ r.role=2)(h3:(decide ((r.log.length:Int)<m.index)||decide (aU r.log m.index.toNat≠m.prev))=false)(h4:¬ eM r m<m.aE.length):b9 r m=(Z2 r m,mI [iC r m]):=by
 unfold b9;rw [if_neg h,if_neg h2];simp only;rw [if_neg (by rw [h3];simp),if_neg (show ¬ agree (r.log.drop m.index.toNat) m.aE<m.aE.length from h4)];rfl
theorem nK{r m}(h:¬ m.term<r.term)(h2:¬ r.role=2)(h3:(decide ((r.log.length:Int)<m.index)||decide (aU r.log m.index.toNat≠m.prev))=false)(h4:eM r m<m.aE.length)(h5:m.index.toNat+eM r m+1<=r.aD):b9 r m=(vO r,jS):=by
 unfold b9;rw [if_neg h,if_neg h2];simp only;rw [if_neg (by rw [h3];simp),if_pos (show agree (r.log.drop m.index.toNat) m.aE<m.aE.length from h4),if_pos (show m.index.toNat+agree (r.log.drop m.index.toNat) m.aE+1<=r.aD from h5)];rfl
theorem nL{r m}(h:¬ m.term<r.term)(h2:¬ r.role=2)(h3:(decide ((r.log.length:Int)<m.index)||decide (aU r.log m.index.toNat≠m.prev))=false)(h4:eM r m<m.aE.length)(h5:¬ m.index.toNat+eM r m+1<=r.aD):
  b9 r m=(E0 r m (eM r m),⟨false,0,0,((m.index.toNat+eM r m+1:Nat):Int),m.aE.drop (eM r m),[iC r m]⟩):=by
 unfold b9;rw [if_neg h,if_neg h2];simp only;rw [if_neg (by rw [h3];simp),if_pos (show agree (r.log.drop m.index.toNat) m.aE<m.aE.length from h4),if_neg (show ¬ m.index.toNat+agree (r.log.drop m.index.toNat) m.aE+1<=r.aD from h5)];rfl
structure bA.fY(id:Nat)(m:bA):Prop where
 kind:0<=m.kind/\m.kind<=3
 to:m.to=id
 src:m.src≠id/\0<=m.src/\m.src<=2
 term:1<=m.term/\m.term<=1099511627776
 index:0<=m.index/\m.index<=4000
 prev:0<=m.prev/\m.prev<=m.term
 zero:m.index=0->m.prev=0
 aD:0<=m.aD/\m.aD<=4000
 len:m.aE.length<=8
 fits:m.index+m.aE.length<=4000
 sound:oR m.aE (max 1 m.prev) m.term=true
theorem gU{id m}:gQ id m=true ↔ m.fY id:=by
 unfold gQ;simp only [Bool.and_eq_true,Bool.not_eq_true',Bool.and_eq_false_iff,decide_eq_true_eq,decide_eq_false_iff_not];constructor
 .rintro ⟨⟨⟨⟨⟨⟨⟨⟨⟨⟨⟨⟨⟨⟨⟨⟨⟨h1,h2⟩,h3⟩,h4⟩,h5⟩,h6⟩,h7⟩,h8⟩,h9⟩,h10⟩,h11⟩,h12⟩,h13⟩,h14⟩,h15⟩,h16⟩,h17⟩,h18⟩;exact ⟨⟨h1,h2⟩,h3,⟨h4,h5,h6⟩,⟨h7,h8⟩,⟨h9,h10⟩,⟨h11,h12⟩,λh=>by omega,⟨h14,h15⟩,by omega,h17,h18⟩
 .intro h;obtain ⟨a1,a2⟩:=h.kind;obtain ⟨b1,b2,b3⟩:=h.src;obtain ⟨c1,c2⟩:=h.term;obtain ⟨d1,d2⟩:=h.index;obtain ⟨e1,e2⟩:=h.prev;obtain ⟨f1,f2⟩:=h.aD;have:=h.len;have:=h.zero;exact ⟨⟨⟨⟨⟨⟨⟨⟨⟨⟨⟨⟨⟨⟨⟨⟨⟨a1,a2⟩,h.to⟩,b1⟩,b2⟩,b3⟩,c1⟩,c2⟩,d1⟩,d2⟩,e1⟩,e2⟩,by omega⟩,f1⟩,f2⟩,by omega⟩,h.fits⟩,h.sound⟩
theorem Z3:∀ (l:List bH) (least most:Int),oR l least most=true->(∀ x∈l,least<=x.term/\x.term<=most/\x.data.size<=2000)/\∀ i j,i<=j->(hj:j<l.length)->(hi:i<l.length)->l[i].term<=l[j].term
 | [],_,_,_=>⟨λx hx=>(by cases hx),λi j _ hj=>(by simp at hj)⟩
 | x :: l,least,most,h=>by
  unfold oR at h;split at h
  .cases h
  rename_i h1;simp only [Bool.or_eq_true,decide_eq_true_eq,not_or] at h1;obtain ⟨h2,h3⟩:=Z3 l x.term most h;refine ⟨λy hy=>?_,λi j hij hj hi=>?_⟩
  .rcases List.mem_cons.1 hy with rfl|hy
   .omega
   .have:=h2 y hy;omega
  .cases i with
   | zero =>
    cases j with
    | zero=>exact Int.le_refl _
    | succ j=>simp only [List.getElem_cons_zero,List.getElem_cons_succ];exact (h2 _ (List.getElem_mem _)).1
   | succ i =>
    cases j with
    | zero=>omega
    | succ j=>simp only [List.getElem_cons_succ];exact h3 i j (by omega) _ _
set_option maxHeartbeats 4000000 in
theorem Z4{W w S}{Φ:PW}[aB Φ]{b r p c}(cx:Ctx W w (aV b r p c++S) Φ)(hr:r.Ok)(m)(hm:m.fY r.id)(q qc)(qU:∀ M w,Φ M w->Sl M w q m.aE)(hqc:m.aE.length<=qc){K}(hK:HM W S Φ b (b9 r m).1 (b9 r m).2 λv w=>K (.returned v) w):aG F.iL #[.pointer (some ⟨b,0,none⟩),m.v q qc] w K:=by
 have hlen:=hr.len;have hcm:=hr.aD;obtain ⟨hs1,hs2,hs3⟩:=hm.src;obtain ⟨hi1,hi2⟩:=hm.index;obtain ⟨hc1,JR⟩:=hm.aD;have hl8:=hm.len;have hfit:=hm.fits;have ht0:=hr.kK;have htM:=hr.iD;have hix:m.index=(m.index.toNat:Nat):=by omega
 have hth:a2a q m.aE.length:=(qU _ _ cx.yK).there;have b0T:∀ x∈m.aE,x.Ok:=aG6 (qU _ _ cx.yK);have hzero:(aV b { r with role:=(0:Int) } p c)=aV b (vO r) p c:=rfl;refine iO (wK b 0 m.kind m.src m.to m.term m.index m.prev m.aD m.yes q m.aE.length qc (J:=K∘.returned) cx ?_);refine λ_ _ w G cx=>zV (gl cx) 3 m.src λw cx=>⟨_,_,_,_,_,_,_,_,none,_,0,rfl,aV b r p c++S,Φ,aR,gr cx,λk w G cx=>⟨cx.can 0 rfl (by simp),λw' hw'=>?_⟩⟩
 have jE:Ctx W w' (aV b r p c++.blk k ((mP r 3 m.src).cells none 0) 271 :: S++G) Φ:=sink (cx.FR 0 hw' rfl);have aVJ:=DZ hr (kind:=3) (to:=m.src) (index:=0) (prev:=0) (yes:=false) (by omega) (by omega) (by omega) (by omega);refine ⟨_,Φ,aR,jE,λw G cx=>⟨r.term,cx.get 0 rfl rfl,Br.intro (λh=>λw G cx=>⟨_,_,_,_,_,_,_,_,none,_,0,cx.EO 2 rfl,λw G cx=>?_⟩) (λh=>λw G cx=>⟨r.role,cx.get 0 rfl rfl,Br.intro (λh2=>λw G cx=>?_) (λh2=>λw G cx=>⟨cx.can 0 rfl (by simp),λw' hw'=>?_⟩)⟩)⟩⟩
 .rw [pY (fV h)] at hK;refine UI cx aVJ rfl hK λq w cx z7=>⟨_,_,_,_,none,_,0,q,_,1,rfl,_,_,aR,cx,λw G cx=>z7 w G cx⟩
 .rw [nJ (eV h) (fV h2)] at hK;exact hK.zero (lift cx).drop1.left
 have h:=eV h;have h2:=eV h2;have jE:Ctx W w' (aV b (vO r) p c++.blk k ((mP r 3 m.src).cells none 0) 271 :: S++G) Φ:=gr (lJ (gl cx) hw' (vO r) rfl rfl);refine ⟨_,Φ,aR,jE,λw G cx=>⟨p,r.log.length,c,cx.get 0 rfl rfl,aU r.log m.index.toNat,λhle w' hw=>a3Y (r:=vO r) (DX (gl cx)) hix ?_ hlen hw,Br.intro (λh3=>?_) (λh3=>?_)⟩⟩
 .simp only [Bool.not_eq_true',decide_eq_false_iff_not] at hle;show m.index.toNat<=r.log.length;omega
 .rw [pZ h h2 h3] at hK;refine ⟨by unfold bE;omega,λw G cx=>⟨p,r.log.length,c,cx.get 0 rfl rfl,λw G cx=>⟨cx.can 2 rfl (by simp),λw' hw'=>?_⟩⟩⟩;have jE:Ctx W w' (aV b (vO r) p c++.blk k ((HT r m).cells none 0) 271 :: S++G) Φ:=cx.put 2 hw' rfl;refine ⟨_,Φ,aR,jE,λw G cx=>⟨_,_,_,_,_,_,_,_,none,_,0,cx.EO 2 rfl,λw G cx=>?_⟩⟩;have hno:(HT r m).Ok:=DZ hr (by omega) (by omega) (by omega) (by omega);refine UI (r:=vO r) cx hno rfl hK λq w cx z7=>⟨_,_,_,_,none,_,0,q,_,1,rfl,_,_,aR,cx,λw G cx=>z7 w G cx⟩
 have hle:m.index.toNat<=r.log.length:=by
  simp only [Bool.or_eq_false_iff,decide_eq_false_iff_not] at h3;omega
 have hao:(iC r m).Ok:=DZ hr (by omega) (by omega) (by omega) (by omega);refine λ_=>dS (λjI a0 a1 a2 a3 a4 a5 a6 a7 a8 a9 sv tm vt fr rp rn rc sp sn sc R' aX kk=>∃ j:Nat,jI=j/\j<=m.aE.length/\sv=false/\tm=0/\vt=0/\fr=0/\rp=none/\rn=0/\rc=0/\sp=none/\sn=0/\sc=0/\R'=aV b (vO r) p c++.blk k ((mP r 3 m.src).cells none 0) 271 :: S/\aX=Φ/\kk=m.aE.length - j/\eM r m=j+agree (r.log.drop (m.index.toNat+j)) (m.aE.drop j))
  ⟨⟨_,Φ,_,aR,λw G cx=>cx,0,rfl,Nat.zero_le _,rfl,rfl,rfl,rfl,rfl,rfl,rfl,rfl,rfl,rfl,rfl,rfl,rfl,by simp [eM]⟩,?_⟩
 rintro jI _ _ _ _ _ _ _ _ _ _ _ _ _ _ _ _ _ _ _ _ R1 cL kk _ ⟨j,rfl,hj,rfl,rfl,rfl,rfl,rfl,rfl,rfl,rfl,rfl,rfl,rfl,rfl,rfl,hag⟩;have z7:∀ (r2:dH) (p2:Option Addr) (c2:Nat) (Ψ:PW),aB Ψ->r2.id=r.id->r2.term=r.term->r2.aD=r.aD->∀ (w:World) (G:List Own),Ctx W w (aV b r2 p2 c2++.blk k ((mP r 3 m.src).cells none 0) 271 :: S++G) Ψ ->
   aH w k 7 1/\∀ w',w'=w.setCell (Addr.mk k 7 none) (.bool true)->Ctx W w' (aV b r2 p2 c2++.blk k ((⟨3,r.id,m.src,r.term,0,0,0,true,[]⟩:bA).cells none 0) 271 :: S++G) Ψ :=
  λr2 p2 c2 Ψ hst e1 e2 e3 w G cx=>⟨cx.can 2 rfl (by simp),λw' hw'=>cx.put 2 hw' rfl⟩
 have hval:m.index+(m.aE.length:Int)=(m.index+m.aE.length:Int):=rfl;have hcv:∀ r2:dH,r2.aD=r.aD->max (r2.aD:Int) (min m.aD (m.index+(m.aE.length:Int)))=((a1m r m:Nat):Int):=λr2 e=>by rw [e];unfold a1m;omega
 refine Br.intro (λhlt=>?_) (λhge=>?_)
 .have hlt:j<m.aE.length:=by simpa using hlt
  obtain ⟨qb,qo,rfl⟩:=hth (by omega);refine ⟨by omega,bF qb qo rfl λw G cx=>⟨m.aE[j].term,m.aE[j].data,by rw [Int.toNat_natCast];exact N4 (qU _ _ cx.yK) hlt,λ_=>⟨by unfold bE;omega,by unfold bE;omega,λw G cx=>⟨p,r.log.length,c,cx.get 0 rfl rfl,aU r.log (m.index.toNat+j+1),λaHb w' hw=>a3Y (r:=vO r) (DX (gl cx)) (by omega) ?_ hlen hw,Br.intro (λheq=>?_) (λhne=>?_)⟩⟩⟩⟩
  .have:=fV aHb;show m.index.toNat+j+1<=r.log.length;omega
  .refine ⟨by unfold bE;omega,_,cL,m.aE.length - (j+1),aR,λw G cx=>cx,⟨j+1,rfl,hlt,rfl,rfl,rfl,rfl,rfl,rfl,rfl,rfl,rfl,rfl,rfl,rfl,rfl,?_⟩,by omega⟩;rw [Z1 hlt,if_pos] at hag
   .rw [show m.index.toNat+(j+1)=m.index.toNat+j+1 by omega];omega
   .simp only [Bool.and_eq_true,decide_eq_true_eq] at heq ⊢;exact ⟨by omega,heq.2⟩
  .rw [Z1 hlt,if_neg] at hag
   case hnc =>
    intro h';simp only [Bool.and_eq_true,decide_eq_true_eq,Bool.and_eq_false_iff,decide_eq_false_iff_not] at hne h';rcases hne with hne|hne
    .omega
    .exact hne h'.2
   have hag:eM r m=j:=by omega
   refine λw G cx=>⟨r.aD,cx.get 0 rfl rfl,Br.intro (λh5=>λw G cx=>?_) (λh5=>?_)⟩
   .rw [nK h h2 h3 (by omega) (by have:=fV h5;omega)] at hK;exact hK.zero (lift cx).drop1.left
   have h5:=eV h5;rw [nL h h2 h3 (by omega) (by omega),hag] at hK;have htl:(r.log.take (m.index.toNat+j)).length=m.index.toNat+j:=by
    rw [List.length_take];have:=HR (r.log.drop m.index.toNat) m.aE;rw [List.length_drop] at this;unfold eM at hag;omega
   have hjl:m.index.toNat+j<=r.log.length:=by rw [List.length_take] at htl;omega
   refine ⟨by omega,λw G cx=>?_⟩;rw [Int.toNat_natCast,show m.aE.length - j=(m.aE.drop j).length by rw [List.length_drop]];refine y8 cx (λM w h=>a6r (qU M w h) j hqc) (by rw [List.length_drop];omega) λrp aPG w cx=>?_;obtain ⟨_,b0V,b0W⟩:=cx.sU 0 rfl;obtain ⟨x9,hs,_⟩:=Ctx.freeze (α:=bH) cx (tO λx hx=>b0T x (List.mem_of_mem_drop hx));have hst:aB (λM w=>cL M w/\Sl M w rp (m.aE.drop j)):=aR;refine ⟨rp,_,aPG,rfl,_,λM w=>cL M w/\Sl M w rp (m.aE.drop j),hst,x9.add hs,[.blk b ((vO r).cells p c) 278],λ_ _=>True,aR,λw G cx=>(cx.weak λ_ _ _=>trivial).sub (List.Sublist.cons_cons _ (List.Sublist.cons _ (List.Sublist.cons _ (List.sublist_append_right _ _)))),by unfold bE;omega,p,r.log.length,c,λw G cx=>⟨p,r.log.length,c,cx.get 0 rfl rfl,rfl⟩,?_,λw G cx=>?_⟩
   .have hc:=(cx.sU 2 rfl).2.1;have hc:r.log.length<=c:=hc;omega
   have hcap:r.log.length<=c:=(cx.sU 1 rfl).2.1;have hlk:(m.index+(j:Int)+1 - 1).toNat=m.index.toNat+j:=by omega
   have hsp:cT p 2 0 c=p:=by
    unfold cT;split
    .rfl
    .cases p with
     | none=>rfl
     | some a=>simp [Addr.add]
   rw [hlk,hsp,<-htl];have QA:Ctx W w (.blk k ((mP r 3 m.src).cells none 0) 271 :: S++G) (iT W (aV b (vO r) p c) (λM w=>cL M w/\Sl M w rp (m.aE.drop j))):=cx.aPy;refine y8 QA (λM w h=>Sl.take (a9u h (n:=r.log.length) (c:=c) (List.mem_cons_of_mem _ List.mem_cons_self) hr.aE) _) (by show (r.log.take _).length<_;rw [htl];omega) λnp aPH w cx=>?_;have cx4:Ctx W w (aV b (vO r) p c++(.buf np (r.log.take (m.index.toNat+j)).length aPH (bD (r.log.take (m.index.toNat+j))) 216 2 :: .blk k ((mP r 3 m.src).cells none 0) 271 :: S)++G) (λM w=>cL M w/\Sl M w rp (m.aE.drop j)):=Ctx.aGX (T:=.buf np (r.log.take (m.index.toNat+j)).length aPH (bD (r.log.take (m.index.toNat+j))) 216 2 :: .blk k ((mP r 3 m.src).cells none 0) 271 :: S) cx
   refine ⟨np,_,aPH,rfl,_,_,hst,cx4,λw G cx=>(cx.weak λ_ _ _=>trivial).sub (List.Sublist.cons_cons _ (List.Sublist.cons _ (List.Sublist.cons _ (List.Sublist.cons _ (List.sublist_append_right _ _))))),λw G cx=>?_⟩;have cx5:=lift (Q:=aV b (vO r) p c) cx;obtain ⟨p',cap',w',news,hrun,_,cx'⟩:=Ctx.aGV (P:=prog) (α:=bH) (ts:=99) (ty:=99) (kb:=#[false,false]) (bytes:=24) (c2:=aPG) cx5 (by kernel_rfl) aBx (λM w h=>h.2) (by rw [List.length_drop];omega) (by rw [htl,List.length_drop];omega) (by omega)
   have hnews:=(YV cx'.yK.2).1;subst hnews;have hnl:(r.log.take (m.index.toNat+j)).length+(m.aE.drop j).length=(E0 r m j).log.length:=by show _=(r.log.take (m.index.toNat+j)++m.aE.drop j).length;rw [List.length_append]
   have hnc:bD (r.log.take (m.index.toNat+j))++bD (m.aE.drop j)=bD (E0 r m j).log:=by rw [<-Q6];rfl
   rw [hnl] at hrun;rw [hnl,hnc] at cx';have cx6:Ctx W w' (.buf p' (E0 r m j).log.length cap' (bD (E0 r m j).log) 216 2 :: (aV b (vO r) p c++(.blk k ((mP r 3 m.src).cells none 0) 271 :: S))++G) (λM w=>cL M w/\Sl M w rp (m.aE.drop j)):=cx'.weak λM w h=>h.1;refine ⟨p',_,cap',w',hrun,_,_,hst,cx6,λw G cx=>(cx.weak λ_ _ _=>trivial).sub (List.Sublist.cons _ (List.Sublist.cons_cons _ (List.Sublist.cons _ (List.Sublist.cons _ (List.sublist_append_right _ _))))),λw G cx=>⟨cx.can 1 rfl (by simp),λw' hw'=>?_⟩⟩
   have hcells:((vO r).cells p c).set 3 (.slice p' (E0 r m j).log.length cap')=({ E0 r m j with aD:=r.aD }:dH).cells p' cap':=by simp [dH.cells,E0,vO]
   have cx7:Ctx W w' (aV b { E0 r m j with aD:=r.aD } p' cap'++.blk k ((mP r 3 m.src).cells none 0) 271 :: S++G) (λM w=>cL M w/\Sl M w rp (m.aE.drop j)):=by
    have h1:Ctx W w' (.buf p' (E0 r m j).log.length cap' (bD (E0 r m j).log) 216 2 :: .blk b (((vO r).cells p c).set 3 (.slice p' (E0 r m j).log.length cap')) 278 :: .buf p r.log.length c (bD r.log) 216 2 :: (.blk k ((mP r 3 m.src).cells none 0) 271 :: S++G)) (λM w=>cL M w/\Sl M w rp (m.aE.drop j)):=cx.put 1 hw' rfl;rw [hcells] at h1;exact (h1.sub (List.Sublist.cons_cons _ (List.Sublist.cons_cons _ (List.sublist_cons_self _ _)))).swap
   refine ⟨_,_,hst,cx7,[],λ_ _=>True,aR,λw G cx=>(cx.weak λ_ _ _=>trivial).right,by unfold bE;omega,λw G cx=>?_⟩;obtain ⟨g1,g2⟩:=z7 { E0 r m j with aD:=r.aD } p' cap' _ hst rfl rfl rfl w G cx;refine ⟨g1,λw' hw'=>⟨_,_,hst,g2 w' hw',λw G cx=>(cx.weak λ_ _ _=>trivial).right,λw G cx=>⟨cx.can 2 rfl (by simp),λw' hw'=>?_⟩⟩⟩;have cx8:Ctx W w' (aV b { E0 r m j with aD:=r.aD } p' cap'++.blk k ((iC r m).cells none 0) 271 :: S++G) (λM w=>cL M w/\Sl M w rp (m.aE.drop j)):=cx.put 2 hw' rfl
   refine ⟨_,_,hst,cx8,λw G cx=>⟨_,cx.get 2 rfl rfl,λw G cx=>⟨_,cx.get 0 rfl rfl,λw G cx=>⟨cx.can 0 rfl (by simp),λw' hw'=>?_⟩⟩⟩⟩;rw [show max (r.aD:Int) (min m.aD (iC r m).index)=((a1m r m:Nat):Int) from hcv { E0 r m j with aD:=r.aD } rfl] at hw';have cx9:Ctx W w' (aV b (E0 r m j) p' cap'++.blk k ((iC r m).cells none 0) 271 :: S++G) (λM w=>cL M w/\Sl M w rp (m.aE.drop j)):=gr (lJ (gl cx) hw' (E0 r m j) rfl rfl)
   refine ⟨_,_,hst,cx9,λw G cx=>⟨_,_,_,_,_,_,_,_,none,_,0,cx.EO 2 rfl,λk2 w G cx=>?_⟩⟩;obtain ⟨aPI,hs2⟩:=cx.BZ (dR.one (Q9 (x:=iC r m) hao (Nat.le_refl _) (by simp [maxLen]) Sl.nil));have b0Z:=(lift (aPI.add (Ψ:=λM w=>Sl M w (some ⟨k2,0,none⟩) [iC r m]) hs2)).drop1.left;have hkk:=hK p' cap' rp aPG (some ⟨k2,0,none⟩) 1 w b0V b0W (by simp) (by simp [maxLen]) (b0Z.weak λM w h=>⟨h.1.1,h.1.2,h.2⟩);rw [show m.index+(j:Int)+1=((m.index.toNat+j+1:Nat):Int) by omega]
   exact hkk
 .have hge:j=m.aE.length:=Nat.le_antisymm hj (by simpa using hge);subst hge;rw [List.drop_length] at hag;have hag:¬ eM r m<m.aE.length:=by omega
  rw [kV h h2 h3 hag] at hK;refine ⟨[],λ_ _=>True,aR,λw G cx=>(cx.weak λ_ _ _=>trivial).right,by unfold bE;omega,λw G cx=>?_⟩;obtain ⟨g1,g2⟩:=z7 (vO r) p c cL aR rfl rfl rfl w G cx;refine ⟨g1,λw' hw'=>⟨_,cL,aR,g2 w' hw',λw G cx=>(cx.weak λ_ _ _=>trivial).right,λw G cx=>⟨cx.can 2 rfl (by simp),λw' hw'=>?_⟩⟩⟩;have cx8:Ctx W w' (aV b (vO r) p c++.blk k ((iC r m).cells none 0) 271 :: S++G) cL:=cx.put 2 hw' rfl
  refine ⟨_,cL,aR,cx8,λw G cx=>⟨_,cx.get 2 rfl rfl,λw G cx=>⟨_,cx.get 0 rfl rfl,λw G cx=>⟨cx.can 0 rfl (by simp),λw' hw'=>?_⟩⟩⟩⟩;rw [show max ((vO r).aD:Int) (min m.aD (iC r m).index)=((a1m r m:Nat):Int) from hcv (vO r) rfl] at hw';have cx9:Ctx W w' (aV b (Z2 r m) p c++.blk k ((iC r m).cells none 0) 271 :: S++G) cL:=gr (lJ (gl cx) hw' (Z2 r m) rfl rfl);refine ⟨_,cL,aR,cx9,λw G cx=>⟨_,_,_,_,_,_,_,_,none,_,0,cx.EO 2 rfl,λk2 w G cx=>?_⟩⟩
  obtain ⟨aPI,hs2⟩:=cx.BZ (dR.one (Q9 (x:=iC r m) hao (Nat.le_refl _) (by simp [maxLen]) Sl.nil));exact hK.sent (by simp) (by simp [maxLen]) (lift (aPI.add (Ψ:=λM w=>Sl M w (some ⟨k2,0,none⟩) [iC r m]) hs2)).drop1.left
def yA(r:dH)(x:dH × kR):dH × kR:=if (decide (x.1.term=r.term)&&decide (x.1.aK=r.aK))=true then x else (x.1,{ x.2 with save:=true,term:=x.1.term,aK:=x.1.aK })
def QD(r:dH)(m:bA):dH:={ r with term:=m.term,aK := -1,role:=0 }
def dJ(r1:dH)(m:bA):dH × kR:=if m.kind=0 then cX r1 m else if m.kind=1 then cU r1 m else if m.kind=2 then b9 r1 m else aW r1 m
theorem pS{r m}(h:gQ r.id m=false):aT r m=(r,jS):=by unfold aT;rw [if_pos h]
theorem nM{r m}(h:gQ r.id m=true):aT r m=yA r (dJ (if r.term<m.term then QD r m else r) m):=by unfold aT;rw [if_neg (by rw [h];simp)];rfl
theorem aNk{r}(h:r.Ok)(m)(hm:m.fY r.id)(ht:r.term<m.term):(QD r m).Ok:=by
 have h1:=h.kK;have h2:=hm.term.2;refine ⟨h.id,by show 0<=m.term;omega,h2,by show (-1:Int) <= -1;omega,by show (-1:Int)<=2;omega,⟨h.log.lo,λx hx=>?_,h.log.data,h.log.N1⟩,h.len,.inl rfl,h.aD,λhr=>?_,h.bound⟩
 .have:=h.log.hi x hx;show x.term<=m.term;omega
 .cases (show (0:Int)=2 from hr)
theorem aK8:sH prog 143=true:=by kernel_rfl
theorem qJ{W S G}{Φ:PW}[aB Φ]{b r x J}(hK:HM W S Φ b (yA r x).1 (yA r x).2 J):
  HM W (S++G) Φ b x.1 x.2 (λv w=>∃ (c:Bool) (n1 n2 n3:Int) (p1:Option Addr) (k1 k2:Nat) (p2:Option Addr) (k3 k4:Nat),Ending.returned v=.returned (.agg #[.bool c,.int .i64 n1,.int .i64 n2,.int .i64 n3,.slice p1 k1 k2,.slice p2 k3 k4]) /\
   ∃ (R:List Own) (aX:PW),aB aX/\Ctx W w (R++G) aX/\∀ (w:World) (F:List Own),Ctx W w (R++F) aX->∃ (a1 a2:Int),bT w b (0+1) [.int .i64 a1,.int .i64 a2]/\sH prog 143=true /\
    Br (!(decide (a1=r.term)&&(decide (a2=r.aK)&&true)))
     (∃ (R2:List Own) (JG:PW),aB JG/\(∀ (w:World) (F:List Own),Ctx W w (R++F) aX->Ctx W w (R2++F) JG)/\∃ (b1 b2:Int),(∀ (w:World) (F:List Own),Ctx W w (R2++F) JG->∃ (d1 d2:Int),bT w b (0+1) [.int .i64 d1,.int .i64 d2]/\Value.agg #[.int .i64 d1,.int .i64 d2]=Value.agg #[.int .i64 b1,.int .i64 b2]) /\
      (∀ (w:World) (F:List Own),Ctx W w (R++F) aX->Ctx W w (R2++F) JG)/\(∀ (w:World) (F:List Own),Ctx W w (R++F) aX->Ctx W w (R2++F) JG)/\∀ (w:World) (F:List Own),Ctx W w (R++F) aX->J (.agg #[.bool true,.int .i64 b1,.int .i64 b2,.int .i64 n3,.slice p1 k1 k2,.slice p2 k3 k4]) w)
     (∀ (w:World) (F:List Own),Ctx W w (R++F) aX->J (.agg #[.bool c,.int .i64 n1,.int .i64 n2,.int .i64 n3,.slice p1 k1 k2,.slice p2 k3 k4]) w)):=by
 obtain ⟨r',o⟩:=x;intro p' c' q1 c1 q2 c2 w h1 h2 h3 h4 cx;have hrow:∀ {w:World} {F:List Own},Ctx W w (aV b r' p' c'++S++F) (a3Z Φ q1 o.aE q2 o.send)->bT w b (0+1) [.int .i64 r'.term,.int .i64 r'.aK]:=λcx=>cx.row 0 rfl (zT (vs:=[.int .i64 r'.term,.int .i64 r'.aK]) rfl);refine ⟨_,_,_,_,q1,_,c1,q2,_,c2,rfl,aV b r' p' c'++S,a3Z Φ q1 o.aE q2 o.send,aR,gr cx,λw F cx=>⟨r'.term,r'.aK,hrow cx,aK8,Br.intro (λhd=>?_) (λhd=>?_)⟩⟩
 .have hf:yA r (r',o)=(r',{ o with save:=true,term:=r'.term,aK:=r'.aK }):=by
   unfold yA;rw [if_neg];intro h;simp only [Bool.and_true,Bool.not_eq_true'] at hd;rw [hd] at h;cases h
  rw [hf] at hK;exact ⟨aV b r' p' c'++S,a3Z Φ q1 o.aE q2 o.send,aR,λw F cx=>cx,r'.term,r'.aK,λw F cx=>⟨_,_,hrow cx,rfl⟩,λw F cx=>cx,λw F cx=>cx,λw F cx=>hK p' c' q1 c1 q2 c2 w h1 h2 h3 h4 cx.left⟩
 .have hf:yA r (r',o)=(r',o):=by
   unfold yA;rw [if_pos];simpa using hd
  rw [hf] at hK;exact λw F cx=>hK p' c' q1 c1 q2 c2 w h1 h2 h3 h4 cx.left
set_option maxHeartbeats 2000000 in
theorem aHc{W w S}{Φ:PW}[aB Φ]{b r p c}(cx:Ctx W w (aV b r p c++S) Φ)(hr:r.Ok)(m)(hmo:m.Ok)(q qc)(qU:∀ M w,Φ M w->Sl M w q m.aE)(hqc:m.aE.length<=qc)(hqm:qc<=maxLen){K}(hK:HM W S Φ b (aT r m).1 (aT r m).2 λv w=>K (.returned v) w):aG F.nD #[.pointer (some ⟨b,0,none⟩),m.v q qc] w K:=by
 refine iO (yQ b 0 m.kind m.src m.to m.term m.index m.prev m.aD m.yes q m.aE.length qc (J:=K∘.returned) cx ?_);refine λ_ _ w G cx=>aDc (gl cx) m q qc qU (Nat.le_trans hqc (Nat.le_trans hqm (by decide))) hmo.index λw cx=>⟨_,rfl,aV b r p c++S,Φ,aR,gr cx,Br.intro (λh=>λw G cx=>?_) (λh=>λw G cx=>⟨r.term,r.aK,cx.row 0 rfl (zT (vs:=[.int .i64 r.term,.int .i64 r.aK]) rfl),λ_ w G cx=>⟨r.term,cx.get 0 rfl rfl,Br.intro (λht=>λw G cx=>⟨cx.can 0 rfl (by simp),λw' hw'=>?_⟩) (λht=>?_)⟩⟩)⟩
 .rw [pS (by simpa using h)] at hK;exact hK.zero cx.left
 all_goals
  have hy:gQ r.id m=true:=by simpa using h
  have hmr:=gU.1 hy;obtain ⟨hs1,hs2,hs3⟩:=hmr.src;obtain ⟨hk1,hk2⟩:=hmr.kind;obtain ⟨hi1,hi2⟩:=hmr.index;rw [nM hy] at hK
 .have ht:=fV ht;rw [if_pos ht] at hK;have hu:=aNk hr m hmr ht;have jE:=gr (Z0 (gl cx) hw' { r with term:=m.term,aK := -1 } rfl rfl);refine ⟨_,Φ,aR,jE,λw G cx=>⟨cx.can 0 rfl (by simp),λw' hw'=>?_⟩⟩;have jE:Ctx W w' (aV b (QD r m) p c++S++G) Φ:=gr (lJ (gl cx) hw' (QD r m) rfl rfl);refine ⟨_,Φ,aR,jE,λ_=>Br.intro (λk0=>λw G cx=>?_) (λk0=>Br.intro (λk1=>λw G cx=>?_) (λk1=>Br.intro (λk2=>λw G cx=>?_) (λk2=>Br.intro (λk3=>λw G cx=>?_) (λk3=>?_))))⟩
  .rw [show dJ (QD r m) m=cX (QD r m) m by unfold dJ;rw [if_pos (fV k0)]] at hK;exact a6y (gl cx) hu m q qc hs2 hs3 (qJ hK)
  .rw [show dJ (QD r m) m=cU (QD r m) m by unfold dJ;rw [if_neg (eV k0),if_pos (fV k1)]] at hK;exact a2f (gl cx) hu m q qc hs2 hs3 (qJ hK)
  .rw [show dJ (QD r m) m=b9 (QD r m) m by unfold dJ;rw [if_neg (eV k0),if_neg (eV k1),if_pos (fV k2)]] at hK;exact Z4 (gl cx) hu m hmr q qc qU hqc (qJ hK)
  .rw [show dJ (QD r m) m=aW (QD r m) m by unfold dJ;rw [if_neg (eV k0),if_neg (eV k1),if_neg (eV k2)]] at hK;exact QC (gl cx) hu m q qc hs2 hs3 hi1 hi2 (qJ hK)
  .exfalso;have:=eV k0;have:=eV k1;have:=eV k2;have:=eV k3;omega
 .have ht:=eV ht;rw [if_neg ht] at hK;refine λ_=>Br.intro (λk0=>λw G cx=>?_) (λk0=>Br.intro (λk1=>λw G cx=>?_) (λk1=>Br.intro (λk2=>λw G cx=>?_) (λk2=>Br.intro (λk3=>λw G cx=>?_) (λk3=>?_))))
  .rw [show dJ r m=cX r m by unfold dJ;rw [if_pos (fV k0)]] at hK;exact a6y (gl cx) hr m q qc hs2 hs3 (qJ hK)
  .rw [show dJ r m=cU r m by unfold dJ;rw [if_neg (eV k0),if_pos (fV k1)]] at hK;exact a2f (gl cx) hr m q qc hs2 hs3 (qJ hK)
  .rw [show dJ r m=b9 r m by unfold dJ;rw [if_neg (eV k0),if_neg (eV k1),if_pos (fV k2)]] at hK;exact Z4 (gl cx) hr m hmr q qc qU hqc (qJ hK)
  .rw [show dJ r m=aW r m by unfold dJ;rw [if_neg (eV k0),if_neg (eV k1),if_neg (eV k2)]] at hK;exact QC (gl cx) hr m q qc hs2 hs3 hi1 hi2 (qJ hK)
  .exfalso;have:=eV k0;have:=eV k1;have:=eV k2;have:=eV k3;omega
end Go.Proofs.YtnlkemjhgdbfkaaGreatDoor
end

section
namespace Go.Vc
end Go.Vc
namespace Go.Proofs.YtnlkemjhgdbfkaaGreatDoor
open Go.Vc
def QE(n:Int):ByteArray:=⟨(Lib.itoa n).toArray⟩
def oS(n:Int):ByteArray:=QE n++ByteArray.mk #[59]
def SZ(n:Int):ByteArray:=if n<0 then ByteArray.mk #[] else oS n
def oF(s:ByteArray):ByteArray:=QE s.size++ByteArray.mk #[58]++s++ByteArray.mk #[44]
theorem rM(a b:ByteArray):(a++b).size=a.size+b.size:=ByteArray.size_append
theorem a2h(l:List UInt8):(ByteArray.mk l.toArray).size=l.length:=by simp [ByteArray.size]
theorem fT(a:ByteArray):a.data.toList.length=a.size:=by rw [Array.length_toList];rfl
theorem N9:∀ (k u:Nat),u<10 ^ k->0<k->Lib.nDigits u<=k
 | 0,u,_,h=>by omega
 | k+1,u,h,_=>by
  by_cases h1:u<10
  .rw [Lib.nDigits_small h1];omega
  .rw [Lib.nDigits_big h1];have hk:0<k:=by
    rcases Nat.eq_zero_or_pos k with rfl|h2
    .simp at h;omega
    .exact h2
   have:=N9 k (u / 10) (by rw [Nat.pow_succ] at h;omega) hk;omega
theorem a6H{n}(h:bE n):1<=(Lib.itoa n).length/\(Lib.itoa n).length<=20:=by
 unfold bE at h;unfold Lib.itoa;split
 .have h1:=N9 19 n.natAbs (by omega) (by decide);have h2:=Lib.nDigits_pos n.natAbs;rw [List.length_cons,Lib.decDigits_length];omega
 .have h1:=N9 19 n.toNat (by omega) (by decide);have h2:=Lib.nDigits_pos n.toNat;rw [Lib.decDigits_length];omega
theorem JS{n}(h:bE n):1<=(QE n).size/\(QE n).size<=20:=by
 unfold QE;rw [a2h];exact a6H h
theorem fU{n}(h:bE n):2<=(oS n).size/\(oS n).size<=21:=by
 have:=JS h;have e:(ByteArray.mk #[59]).size=1:=rfl;unfold oS;rw [rM,e];omega
theorem T0{n}(h:bE n):(SZ n).size<=21:=by
 unfold SZ;split
 .exact Nat.zero_le _
 .exact (fU h).2
theorem E1{s}(h:s.size<=9223372036854775807):(oF s).size<=s.size+22/\s.size+3<=(oF s).size:=by
 have:=JS (n:=s.size) (by unfold bE;omega);have e:(ByteArray.mk #[58]).size=1:=rfl;have e2:(ByteArray.mk #[44]).size=1:=rfl;unfold oF;rw [rM,rM,rM,e,e2];omega
abbrev aVK:String:=((Rows.groupAgreesRow.laid.map Prod.fst).drop 2).headD default
abbrev yB:PW:=Tab prog aVK .u64 Lib.pow10Tab
theorem aBB{Φ:PW}[aB Φ](oX:∀ M w,Φ M w->yB M w)(n)(h:bE n):dF Φ prog F.strconv_Itoa #[.int .i64 n] (.string (QE n)) :=
 aK0 (name:=aVK) (λn h0 h1 w ht=>Any.strconv_Itoa Tryz.aG1 n h0 h1 w ht) oX n h
theorem a9w(i:Nat)(hi:i<100):YO prog F.strconv_Itoa #[.int .i64 i] (.string (QE i)) :=
 Quiet.a19 ⟨λw=>by
  have h:=Any.strconv_Itoa_small { Tryz.aK4 with } i hi w;rw [<-Lib.itoa_nonneg] at h;exact h⟩
def Dec(Φ:PW)(n:Int):Prop:=(∀ M w,Φ M w->yB M w)/\bE n\/∃ i:Nat,i<100/\n=i
theorem a6I{Φ:PW}[aB Φ]{n}(h:Dec Φ n):dF Φ prog F.strconv_Itoa #[.int .i64 n] (.string (QE n)):=by
 rcases h with ⟨h1,h2⟩|⟨i,hi,rfl⟩
 .exact aBB h1 n h2
 .exact (a9w i hi).in
theorem Dec.i64{Φ n}(h:Dec Φ n):bE n:=by
 rcases h with ⟨_,h2⟩|⟨i,hi,rfl⟩
 .exact h2
 .unfold bE;omega
theorem NA{Φ:PW}[aB Φ]{n}(h:Dec Φ n):dF Φ prog F.pG #[.int .i64 n] (.string (oS n)):=by
 refine kE (a06 n) λW R=>?_;have:=JS h.i64;exact λw G cx=>(a6I h).use cx λw cx=>⟨_,rfl,R,Φ,aR,cx,by show (QE n).size+1<=_;omega,λw G cx=>⟨rfl,cx.left⟩⟩
theorem aPJ{Φ:PW}[aB Φ]{n}(h:Dec Φ n):dF Φ prog F.OP #[.int .i64 n] (.string (SZ n)):=by
 refine kE (a08 n) λW R=>Br.intro (λhn=>λw G cx=>⟨?_,cx.left⟩) (λhn=>λw G cx=>(NA h).use cx λw cx=>⟨_,rfl,R,Φ,aR,cx,λw G cx=>⟨?_,cx.left⟩⟩)
 .unfold SZ;rw [if_pos (fV hn)]
 .unfold SZ;rw [if_neg (eV hn)]
theorem aBC{Φ:PW}[aB Φ]{s}(h:Dec Φ s.size)(hs:s.size<=1000000000000000):dF Φ prog F.JJ #[.string s] (.string (oF s)):=by
 refine kE (Y5 s) λW R=>?_;have h1:=JS h.i64;have e:(ByteArray.mk #[58]).size=1:=rfl;have e2:(ByteArray.mk #[44]).size=1:=rfl;exact λw G cx=>(a6I h).use cx λw cx=>⟨_,rfl,R,Φ,aR,cx,by show (QE s.size).size+1<=_;omega,by show (QE s.size++ByteArray.mk #[58]).size+s.size<=_;rw [rM,e];omega,by show (QE s.size++ByteArray.mk #[58]++s).size+1<=_;rw [rM,rM,e];omega,λw G cx=>⟨rfl,cx.left⟩⟩
end Go.Proofs.YtnlkemjhgdbfkaaGreatDoor
end

section
namespace Go.Vc
section
variable {P:Program}{W w:World}{R G:List Own}{Φ Ψ:PW}{f:FuncId}{args:Array Value}
class Has (Φ Ψ:PW):Prop where
 go:∀ M w,Φ M w->Ψ M w
instance(priority:=2000) aX7 (Φ:PW):Has Φ Φ:=⟨λ_ _ h=>h⟩
instance(priority:=900) b5Y (A B Ψ:PW) [h:Has A Ψ]:Has (λM w=>A M w/\B M w) Ψ:=⟨λM w x=>h.go M w x.1⟩
instance(priority:=1000) b5Z (A B Ψ:PW) [h:Has B Ψ]:Has (λM w=>A M w/\B M w) Ψ:=⟨λM w x=>h.go M w x.2⟩
instance(priority:=800) b01 (Φ A B:PW) [h:Has Φ A] [k:Has Φ B]:Has Φ (λM w=>A M w/\B M w):=⟨λM w x=>⟨h.go M w x,k.go M w x⟩⟩
theorem Ctx.has(c:Ctx W w R Φ)[h:Has Φ Ψ]:Ctx W w R Ψ:=c.weak h.go
theorem dF.toI[aB Φ]{n k}(h:dF Φ P f args (.int k n))(c:Ctx W w (R++G) Φ){K:Int->List Own->PW->Prop}(hk:K n R Φ):
  Calls P f args w λe w'=>∃ c,e=.returned (.int k c)/\∃ R' aX,aB aX/\Ctx W w' (R'++G) aX/\K c R' aX :=
 h.use c λw' c=>⟨n,rfl,R,Φ,aR,c,hk⟩
theorem dF.toS[aB Φ]{s}(h:dF Φ P f args (.string s))(c:Ctx W w (R++G) Φ){K:ByteArray->List Own->PW->Prop}(hk:K s R Φ):
  Calls P f args w λe w'=>∃ c,e=.returned (.string c)/\∃ R' aX,aB aX/\Ctx W w' (R'++G) aX/\K c R' aX :=
 h.use c λw' c=>⟨s,rfl,R,Φ,aR,c,hk⟩
theorem fin[aB Φ][aB Ψ][hw:Has Ψ Φ]{v:Value}(c:Ctx W w (R++G) Ψ):v=v/\Ctx W w R Φ:=⟨rfl,(Ctx.has c).left⟩
end
end Go.Vc
end

