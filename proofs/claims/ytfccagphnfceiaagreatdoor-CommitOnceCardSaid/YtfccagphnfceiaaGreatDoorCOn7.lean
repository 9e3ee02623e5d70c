/-
  The reader of encodings: in plain Lean,and walked.
-/
import Derived.Test.YtfccagphnfceiaaGreatDoorCOn5
import Derived.Shelf.Strconv.AtoiAll
import Derived.Shelf.Small.Wraps
import Derived.Stop.IfaceNil
import Derived.Lib.AtoiErrMem
import Derived.Lib.AtoiAllCases
import Derived.Test.YtfccagphnfceiaaGreatDoorCOn6

set_option linter.unusedVariables false
set_option linter.unusedSimpArgs false
section
namespace Go.Vc
def ErrAt (g:Nat):PW:=fun M w=>g ∉ M∧∃ ev,w.cell? ⟨g,0,none⟩=some ev∧(ev=.nilIface∨∃ te pe,ev=.iface te pe)
instance instStableErrAt (g:Nat):Stable (ErrAt g):=⟨fun {M M' w w'} hs ⟨h1,ev,h2,h3⟩=>by
  have hlt:g<w.heap.size:=by
    rcases Nat.lt_or_ge g w.heap.size with h'|h'
    · exact h'
    · simp [World.cell?,Array.getElem?_eq_none h'] at h2
  refine ⟨fun hm=>?_,ev,hs.chg.cell h2 h1,h3⟩
  rcases hs.sub g hm with h|h
  · exact h1 h
  · omega⟩
theorem chg_below {w w':World} (h:Go.RowKit.Below w.heap.size w w'):Chg [] w w':=⟨h.os,h.tape,h.output,h.size,fun k hk _=>h.block k hk⟩
theorem eqGuard_iface {P:Program} {op:BinOp} {t:TypeId} {ox oy:Operand} {u:TypeId} {v:Value} (w:World):(eqGuard op t ox oy (.iface u v) .nilIface).run P w=.ok () w:=by
  unfold eqGuard
  cases op<;>rfl
theorem eqGuard_nil {P:Program} {op:BinOp} {t:TypeId} {k:Nat} {v:Value} (w:World):(eqGuard op t (.tmp k) (.const v) .nilIface .nilIface).run P w=.ok () w:=by
  unfold eqGuard
  cases op<;>rfl
theorem neq_nil {P:Program} {op:BinOp} {t t':TypeId} {k:Nat} {v:Value} (ht:P.isIface t'=true) (w:World):((eqGuard op t (.tmp k) (.const v) .nilIface .nilIface) >>= fun _=>binOp .neq t' .nilIface .nilIface).run P w=.ok (.bool false) w:=by
  rw [Sem.run_bind,eqGuard_nil]
  exact Go.run_neq_nil_nil_at w t' ht
theorem neq_err {P:Program} {op:BinOp} {t t':TypeId} {ox oy:Operand} {u:TypeId} {v:Value} (ht:P.isIface t'=true) (w:World):((eqGuard op t ox oy (.iface u v) .nilIface) >>= fun _=>binOp .neq t' (.iface u v) .nilIface).run P w=.ok (.bool true) w:=by
  rw [Sem.run_bind,eqGuard_iface]
  exact Go.run_neq_iface_nil w t' ht u v
end Go.Vc
namespace Go.Proofs.YtfccagphnfceiaaGreatDoor
open Go.Vc
def NumI:PW:=fun M w=>TabI M w∧ErrAt 3 M w∧ErrAt 4 M w
instance instStableNumI:Stable NumI:=instStableAnd TabI (fun M w=>ErrAt 3 M w∧ErrAt 4 M w)
def bs (l:List UInt8):ByteArray:=⟨l.toArray⟩
theorem bs_list (l:List UInt8):(bs l).data.toList=l:=rfl
theorem bs_size (l:List UInt8):(bs l).size=l.length:=size_list l
theorem bs_ext (l:List UInt8) (a b:Nat):(bs l).extract a b=bs ((l.drop a).take (b - a)):=by
  apply ByteArray.ext
  apply Array.toList_inj.1
  rw [ByteArray.data_extract,Array.toList_extract]
  rfl
theorem bs_inj {a b:List UInt8}:bs a=bs b ↔ a=b:=⟨fun h=>by have:=congrArg (fun x=>x.data.toList) h;exact this,fun h=>by rw [h]⟩
abbrev RdS:=List UInt8 × Bool
def numP (e:UInt8) (least:Int) (l:List UInt8):Option (Int × List UInt8) :=
  let i:=Lib.indexByte (l.take 21) e
  if i<0 then none else match Lib.atoiAll (l.take i.toNat) with
    | .ok n=>if Lib.itoa n=l.take i.toNat∧least≤n then some (n,l.drop (i.toNat+1)) else none
    | _=>none
def stepN (e:UInt8) (least:Int) (st:RdS):Int × RdS:=match numP e least st.1 with
  | some (n,r)=>(n,(r,st.2))
  | none=>(0,([],true))
def stepC (c:UInt8) (st:RdS):RdS:=match st.1 with
  | []=>([],true)
  | x :: r=>if x=c then (r,st.2) else ([],true)
def stepT (st:RdS):ByteArray × RdS :=
  let a:=stepN 58 0 st
  if (a.2.1.length:Int)<a.1 then (ByteArray.mk #[],([],true)) else
    let c:=stepC 44 (a.2.1.drop a.1.toNat,a.2.2)
    (if c.2 then ByteArray.mk #[] else bs (a.2.1.take a.1.toNat),c)
theorem at_of_split {l r:List UInt8} {i:Nat} {e:UInt8} (h:l.take i++e :: r=l) (hi:i<l.length):l[i]? = some e:=by
  have hl:(l.take i).length=i:=by rw [List.length_take];omega
  rw [←h,List.getElem?_append_right (by omega),hl,Nat.sub_self]
  rfl
theorem index_neg:∀ (l:List UInt8) (c:UInt8),-1≤Lib.indexByte l c∧(Lib.indexByte l c = -1∨(0≤Lib.indexByte l c∧Lib.indexByte l c<l.length∧l.take (Lib.indexByte l c).toNat++c :: l.drop ((Lib.indexByte l c).toNat+1)=l∧c ∉ l.take (Lib.indexByte l c).toNat))
  | [],c=>by simp [Lib.indexByte]
  | b :: l,c=>by
    have ih:=index_neg l c
    unfold Lib.indexByte
    by_cases hb:(b == c)=true
    · rw [if_pos hb]
      have:b=c:=by simpa using hb
      subst this
      refine ⟨by omega,.inr ⟨by omega,by simp,by simp,by simp⟩⟩
    · rw [if_neg hb]
      by_cases h1:(Lib.indexByte l c == -1)=true
      · rw [if_pos h1];exact ⟨by omega,.inl rfl⟩
      · rw [if_neg h1]
        have h1:Lib.indexByte l c ≠ -1:=by simpa using h1
        obtain ⟨h2,h3⟩:=ih
        rcases h3 with h3|⟨h3,h4,h5,h6⟩
        · exact absurd h3 h1
        · have e:(Lib.indexByte l c+1).toNat=(Lib.indexByte l c).toNat+1:=by omega
          refine ⟨by omega,.inr ⟨by omega,by simp;omega,?_,?_⟩⟩
          · rw [e,List.take_succ_cons,List.drop_succ_cons,List.cons_append,h5]
          · rw [e,List.take_succ_cons,List.mem_cons,not_or]
            exact ⟨fun e=>hb (by simp [e]),h6⟩
theorem index_least {l:List UInt8} {c:UInt8} {a r:List UInt8} (hl:l=a++c :: r) (hc:c ∉ a):Lib.indexByte l c=a.length:=by
  subst hl
  induction a with
  | nil=>simp [Lib.indexByte]
  | cons b a ih =>
    have hb:b≠c:=fun e=>hc (by simp [e])
    have ih:=ih fun h=>hc (by simp [h])
    rw [List.cons_append]
    unfold Lib.indexByte
    rw [if_neg (by simpa using hb),if_neg (by rw [ih];simp),ih]
    simp
theorem digits_chars:∀ (u:Nat),∀ c∈Lib.decDigits u,48≤c.toNat∧c.toNat≤57:=by
  intro u
  induction u using Nat.strongRecOn with
  | _ u ih =>
    intro c hc
    rw [Lib.decDigits] at hc
    split at hc
    · rename_i h
      rw [List.mem_singleton] at hc
      subst hc
      have:(UInt8.ofNat (48+u)).toNat=48+u:=by simp;omega
      omega
    · rename_i h
      rcases List.mem_append.1 hc with hc|hc
      · exact ih (u / 10) (by omega) c hc
      · rw [List.mem_singleton] at hc
        subst hc
        have:(UInt8.ofNat (48+u % 10)).toNat=48+u % 10:=by simp;omega
        omega
theorem itoa_chars {n:Int} {c:UInt8} (h:c∈Lib.itoa n):c.toNat=45∨48≤c.toNat∧c.toNat≤57:=by
  unfold Lib.itoa at h
  split at h
  · rcases List.mem_cons.1 h with rfl|h
    · left;rfl
    · right;exact digits_chars _ c h
  · right;exact digits_chars _ c h
def digV (acc:Nat) (l:List UInt8):Nat:=l.foldl (fun a c=>a*10+(c.toNat - 48)) acc
theorem digV_snoc (acc:Nat) (l:List UInt8) (c:UInt8):digV acc (l++[c])=digV acc l*10+(c.toNat - 48):=by simp [digV]
theorem digV_dec:∀ u:Nat,digV 0 (Lib.decDigits u)=u:=by
  intro u
  induction u using Nat.strongRecOn with
  | _ u ih =>
    rw [Lib.decDigits]
    split
    · rename_i h
      show 0*10+((UInt8.ofNat (48+u)).toNat - 48)=u
      have:(UInt8.ofNat (48+u)).toNat=48+u:=by simp;omega
      omega
    · rename_i h
      rw [digV_snoc,ih (u / 10) (by omega)]
      have:(UInt8.ofNat (48+u % 10)).toNat=48+u % 10:=by simp;omega
      omega
theorem digV_mono:∀ (l:List UInt8) (acc:Nat),acc≤digV acc l
  | [],acc=>Nat.le_refl _
  | c :: l,acc=>by
    have:=digV_mono l (acc*10+(c.toNat - 48))
    show acc≤digV (acc*10+(c.toNat - 48)) l
    omega
theorem parse_dig:∀ (l:List UInt8) (acc:Nat),(∀ c∈l,48≤c.toNat∧c.toNat≤57)→digV acc l<18446744073709551616→Lib.parseUint10 acc l=.ok (digV acc l)
  | [],acc,_,_=>rfl
  | c :: l,acc,hc,h=>by
    have h0:=hc c (by simp)
    have hm:=digV_mono l (acc*10+(c.toNat - 48))
    have e:digV acc (c :: l)=digV (acc*10+(c.toNat - 48)) l:=rfl
    rw [e] at h ⊢
    unfold Lib.parseUint10
    rw [if_pos h0,if_neg (by omega),if_neg (by omega)]
    exact parse_dig l _ (fun d hd=>hc d (by simp [hd])) h
theorem dec_ne (u:Nat):Lib.decDigits u≠[]:=by
  intro e
  have h1:=Lib.decDigits_length u
  have h2:=Lib.nDigits_pos u
  rw [e] at h1
  simp at h1
  omega
theorem mag_dec {u:Nat} (h:u<18446744073709551616):Lib.parseMag (Lib.decDigits u)=.ok u:=by
  unfold Lib.parseMag
  rw [if_neg (dec_ne u),parse_dig _ 0 (digits_chars u) (by rw [digV_dec];exact h),digV_dec]
theorem atoi_itoa {n:Int} (h:I64 n):Lib.atoiAll (Lib.itoa n)=.ok n:=by
  unfold I64 at h
  unfold Lib.itoa
  split
  · rename_i hn
    have hm:=mag_dec (u:=n.natAbs) (by omega)
    unfold Lib.atoiAll
    simp only
    rw [if_pos (.inr rfl),hm]
    simp only
    have e45:(45:UInt8).toNat=45:=rfl
    rw [if_neg (by intro h;exact h.1 e45),if_neg (by intro h;omega),if_pos e45]
    congr 1
    omega
  · rename_i hn
    have hm:=mag_dec (u:=n.toNat) (by omega)
    obtain ⟨c,r,hcr⟩:∃ c r,Lib.decDigits n.toNat=c :: r:=by
      cases hd:Lib.decDigits n.toNat with
      | nil=>exact absurd hd (dec_ne _)
      | cons c r=>exact ⟨c,r,rfl⟩
    have h0:=digits_chars n.toNat c (by rw [hcr];simp)
    rw [hcr] at hm ⊢
    unfold Lib.atoiAll
    simp only
    rw [if_neg (by omega),hm]
    simp only
    rw [if_neg (by omega),if_neg (by omega),if_neg (by omega)]
    congr 1
    omega
theorem numP_iff {e:UInt8} (he:e.toNat=58∨e.toNat=59∨e.toNat=91) {least:Int} {l:List UInt8} {n:Int} {r:List UInt8}:numP e least l=some (n,r) ↔ (I64 n∧least≤n)∧l=Lib.itoa n++e :: r:=by
  have hne:∀ n:Int,e ∉ Lib.itoa n:=fun n h=>by have:=itoa_chars h;omega
  constructor
  · intro h
    unfold numP at h
    simp only at h
    split at h
    · cases h
    · rename_i hi
      split at h
      · rename_i m hm
        split at h
        · rename_i hc
          cases h
          have hb:=Lib.atoiAll_bounds hm
          obtain ⟨_,h3⟩:=index_neg (l.take 21) e
          rcases h3 with h3|⟨h3,h4,h5,h6⟩
          · omega
          · refine ⟨⟨by unfold I64;omega,hc.2⟩,?_⟩
            rw [hc.1]
            have hlt:(Lib.indexByte (l.take 21) e).toNat<(l.take 21).length:=by omega
            have hlt2:(Lib.indexByte (l.take 21) e).toNat<l.length:=by rw [List.length_take] at hlt;omega
            have hg:l[(Lib.indexByte (l.take 21) e).toNat]=e:=by
              have h7:(l.take 21)[(Lib.indexByte (l.take 21) e).toNat]? = some e:=at_of_split h5 (by omega)
              rw [List.getElem?_take_of_lt (by rw [List.length_take] at hlt;omega),List.getElem?_eq_getElem hlt2] at h7
              exact Option.some.inj h7
            conv=>lhs;rw [←List.take_append_drop (Lib.indexByte (l.take 21) e).toNat l,List.drop_eq_getElem_cons hlt2,hg]
        · cases h
      · cases h
  · rintro ⟨⟨h1,h2⟩,rfl⟩
    have hlen:=itoa_len h1
    have ht:(Lib.itoa n++e :: r).take 21=Lib.itoa n++e :: r.take (20 - (Lib.itoa n).length):=by
      rw [List.take_append,List.take_of_length_le (by omega)]
      congr 1
      rw [show 21 - (Lib.itoa n).length=(20 - (Lib.itoa n).length)+1 by omega,List.take_succ_cons]
    have hi:=index_least ht (hne n)
    unfold numP
    simp only
    rw [hi,if_neg (by omega),Int.toNat_natCast,List.take_left',atoi_itoa h1]
    · simp only
      rw [if_pos ⟨by simp,h2⟩]
      congr 2
      rw [List.drop_append,List.drop_of_length_le (by omega),List.nil_append,show (Lib.itoa n).length+1 - (Lib.itoa n).length=1 by omega]
      rfl
    · rfl
abbrev rd (b:Nat) (st:RdS):Own:=.blk b [.string (bs st.1),.bool st.2] 186
section
variable {W w:World} {R G S:List Own} {Φ:PW} {b:Nat} {st:RdS}
theorem Open_use [Stable Φ] (l:List UInt8) (c:Ctx W w S Φ) {K:Ending→World→Prop} (hk:∀ b w',Ctx W w' (rd b (l,false) :: S) Φ→K (.returned (.pointer (some ⟨b,0,none⟩))) w') :
    Calls Tryz.prog F.wire_Open #[.string (bs l)] w K:=by
  refine (Bwire_Open_run (bs l) (J:=fun u w'=>K (.returned u) w') c ?_).mono fun e w' ⟨v,he,hj⟩=>by rw [he];exact hj
  exact fun b w G cx=>hk b w (Ctx.left (S:=rd b (l,false) :: S) cx)
theorem fail_use [Stable Φ] (c:Ctx W w (rd b st :: S) Φ) {K:Ending→World→Prop} (hk:∀ w',Ctx W w' (rd b ([],true) :: S) Φ→K (.returned (.tuple #[])) w') :
    Calls Tryz.prog F.wire_Reader_fail #[.pointer (some ⟨b,0,none⟩)] w K:=by
  refine (Bwire_Reader_fail_run b 0 (J:=fun u w'=>K (.returned u) w') c ?_).mono fun e w' ⟨v,he,hj⟩=>by rw [he];exact hj
  refine fun w G cx=>⟨cx.can 0 rfl (by simp),fun w' hw'=>⟨.blk b [.string (bs []),.bool st.2] 186 :: S,Φ,inferInstance,cx.put 0 hw' rfl,fun w G cx=>⟨cx.can 0 rfl (by simp),fun w' hw'=>⟨rd b ([],true) :: S,Φ,inferInstance,cx.put 0 hw' rfl,fun w G cx=>hk w cx.left⟩⟩⟩⟩
theorem fail_to [Stable Φ] (c:Ctx W w (rd b st :: S++G) Φ) {K:List Own→PW→Prop} (hk:K (rd b ([],true) :: S) Φ) :
    Calls Tryz.prog F.wire_Reader_fail #[.pointer (some ⟨b,0,none⟩)] w fun e w'=>e=.returned (.tuple #[])∧∃ R' Φ',Stable Φ'∧Ctx W w' (R'++G) Φ'∧K R' Φ' :=
  fail_use (S:=S++G) c fun w' c=>⟨rfl,rd b ([],true) :: S,Φ,inferInstance,c,hk⟩
theorem index_g (s:ByteArray) (c:Int):Gives Tryz.prog F.strings_IndexByte #[.string s,.int .u8 c] (.int .i64 (Lib.indexByte s.data.toList c.toNat.toUInt8)) :=
  Quiet.gives ⟨fun w=>Any.strings_IndexByte Tryz.lays137 s c w⟩
theorem atoi_to [Stable Φ] (h1:∀ M w,Φ M w→ErrAt 3 M w) (h2:∀ M w,Φ M w→ErrAt 4 M w) (s:ByteArray) (hs:s.size≤1000000) (c:Ctx W w (R++G) Φ) {K1:Int→List Own→PW→Prop} {K2:Int→TypeId→Value→List Own→PW→Prop}
    (k1:∀ n,Lib.atoiAll s.data.toList=.ok n→K1 n R Φ) (k2:∀ n t v,(∀ m,Lib.atoiAll s.data.toList≠.ok m)→K2 n t v R Φ) :
    Calls Tryz.prog F.strconv_Atoi #[.string s] w fun e w'=>(∃ n:Int,e=.returned (.tuple #[.int .i64 n,.nilIface])∧∃ R' Φ',Stable Φ'∧Ctx W w' (R'++G) Φ'∧K1 n R' Φ') ∨
      ∃ (n:Int) (t:TypeId) (v:Value),e=.returned (.tuple #[.int .i64 n,.iface t v])∧∃ R' Φ',Stable Φ'∧Ctx W w' (R'++G) Φ'∧K2 n t v R' Φ':=by
  obtain ⟨_,ev,hv,hev⟩:=h1 _ _ c.phi
  obtain ⟨_,er,hr,her⟩:=h2 _ _ c.phi
  cases h:Lib.atoiAll s.data.toList
  · rename_i n
    refine (Any.strconv_Atoi_ok Tryz.laysC172 s (by omega) n h w).mono fun e w' ⟨he,hw⟩=>.inl ⟨n,he,R,Φ,inferInstance,?_,k1 n h⟩
    rcases hw with rfl|⟨t,rfl⟩
    · exact c
    · exact c.call (chg_below (Lib.bytesWorld_below _ _ _))
  · exact (Any.strconv_Atoi_syntax Tryz.laysC172 s (by omega) h ev w hv hev).mono fun e w' ⟨N,he,_,_,hb⟩=>.inr ⟨_,_,_,he,R,Φ,inferInstance,c.call (chg_below hb),k2 _ _ _ fun m hm=>by rw [h] at hm;cases hm⟩
  · exact (Any.strconv_Atoi_range Tryz.laysC172 s (by omega) h er w hr her).mono fun e w' ⟨N,he,_,_,hb⟩=>.inr ⟨_,_,_,he,R,Φ,inferInstance,c.call (chg_below hb),k2 _ _ _ fun m hm=>by rw [h] at hm;cases hm⟩
theorem stepN_none {e:UInt8} {least:Int} (h:numP e least st.1=none):stepN e least st=(0,([],true)):=by unfold stepN;rw [h]
theorem stepN_some {e:UInt8} {least n:Int} {r:List UInt8} (h:numP e least st.1=some (n,r)):stepN e least st=(n,(r,st.2)):=by unfold stepN;rw [h]
set_option maxHeartbeats 2000000 in
theorem number_use [Stable Φ] (hΦ:∀ M w,Φ M w→NumI M w) (e:Int) (least:Int) (hl:st.1.length≤1000000000000000) (c:Ctx W w (rd b st :: S) Φ) {K:Ending→World→Prop}
    (hk:∀ w',Ctx W w' (rd b (stepN e.toNat.toUInt8 least st).2 :: S) Φ→K (.returned (.int .i64 (stepN e.toNat.toUInt8 least st).1)) w') :
    Calls Tryz.prog F.wire_Reader_number #[.pointer (some ⟨b,0,none⟩),.int .u8 e,.int .i64 least] w K:=by
  refine (Bwire_Reader_number_run b 0 e least (J:=fun u w'=>K (.returned u) w') c ?_).mono fun e w' ⟨v,he,hj⟩=>by rw [he];exact hj
  clear c
  obtain ⟨l,bad⟩:=st
  simp only at hl
  have hsz:(bs l).size=l.length:=bs_size l
  have hmin:(min ((bs l).size:Int) 21).toNat=min l.length 21:=by rw [hsz];omega
  have hhead:(bs l).extract 0 (min ((bs l).size:Int) 21).toNat=bs (l.take 21):=by
    rw [hmin,bs_ext,List.drop_zero,Nat.sub_zero]
    congr 1
    rcases Nat.le_total l.length 21 with h|h
    · rw [Nat.min_eq_left h,List.take_of_length_le (Nat.le_refl _),List.take_of_length_le h]
    · rw [Nat.min_eq_right h]
  refine fun w G cx=>⟨bs l,cx.get 0 rfl rfl,bs l,cx.get 0 rfl rfl,by omega,fun w G cx=>?_⟩
  rw [hhead]
  refine (index_g (bs (l.take 21)) e).in.toI (R:=rd b (l,bad) :: S) cx ?_
  rw [bs_list]
  obtain ⟨i,hi⟩:∃ i,Lib.indexByte (l.take 21) e.toNat.toUInt8=i:=⟨_,rfl⟩
  obtain ⟨hge,hidx⟩:=index_neg (l.take 21) e.toNat.toUInt8
  rw [hi] at hge hidx ⊢
  have failK:numP e.toNat.toUInt8 least l=none→∀ (w:World) (G:List Own),Ctx W w (rd b (l,bad) :: S++G) Φ→Calls Tryz.prog F.wire_Reader_fail #[.pointer (some ⟨b,0,none⟩)] w fun e w'=>e=.returned (.tuple #[])∧∃ R' Φ',Stable Φ'∧Ctx W w' (R'++G) Φ'∧∀ w F1,Ctx W w (R'++F1) Φ'→K (.returned (.int .i64 0)) w:=fun hn w G cx=>by
    rw [stepN_none (st:=(l,bad)) hn] at hk
    exact fail_to (S:=S) cx fun w F1 cx=>hk w cx.left
  refine Br.intro (fun hneg=>fun w G cx=>failK ?_ w G cx) (fun hpos=>?_)
  · unfold numP
    simp only [hi]
    rw [if_pos (of_decide_eq_true hneg)]
  have hpos:=of_decide_eq_false hpos
  rcases hidx with hidx|⟨_,hlt,_,_⟩
  · omega
  have hlt2:i.toNat<(l.take 21).length:=by omega
  have hll:(l.take 21).length≤l.length:=by rw [List.length_take];omega
  have h21:(l.take 21).length≤21:=by rw [List.length_take];omega
  have hhd:(bs (l.take 21)).extract 0 i.toNat=bs (l.take i.toNat):=by
    rw [bs_ext,List.drop_zero,Nat.sub_zero,List.take_take,Nat.min_eq_left (by omega)]
  refine ⟨⟨by omega,by rw [bs_size];omega⟩,fun w G cx=>?_⟩
  rw [hhd]
  refine atoi_to (R:=rd b (l,bad) :: S) (fun M w h=>(hΦ M w h).2.1) (fun M w h=>(hΦ M w h).2.2) (bs (l.take i.toNat)) (by rw [bs_size,List.length_take];omega) cx (fun n hn=>?_) (fun n t v hn=>?_)
  · rw [bs_list] at hn
    have hb:=Lib.atoiAll_bounds hn
    refine ⟨rd b (l,bad) :: S,Φ,inferInstance,fun w G cx=>cx,false,fun w=>neq_nil (by decide +kernel) w,Br.intro (fun h=>by cases h) (fun _=>⟨⟨by omega,by rw [bs_size];omega⟩,fun w G cx=>?_⟩)⟩
    refine (Itoa_in (fun M w h=>(hΦ M w h).1) n (by unfold I64;omega)).toS cx ⟨fun w G cx=>cx,Br.intro (fun hne=>fun w G cx=>failK ?_ w G cx) (fun heq=>Br.intro (fun hls=>fun w G cx=>failK ?_ w G cx) (fun hls=>fun w G cx=>?_))⟩
    · have hne:=of_decide_eq_true hne
      unfold numP
      simp only [hi]
      rw [if_neg (by omega),hn]
      simp only
      rw [if_neg (fun h=>hne (by show bs (Lib.itoa n)=_;rw [h.1]))]
    · unfold numP
      simp only [hi]
      rw [if_neg (by omega),hn]
      simp only
      rw [if_neg (fun h=>by have:=of_decide_eq_true hls;omega)]
    · have heq:Lib.itoa n=l.take i.toNat:=bs_inj.1 (Decidable.not_not.1 (of_decide_eq_false heq))
      have hls:=of_decide_eq_false hls
      have hnum:numP e.toNat.toUInt8 least l=some (n,l.drop (i.toNat+1)):=by
        unfold numP
        simp only [hi]
        rw [if_neg (by omega),hn]
        simp only
        rw [if_pos ⟨heq,by omega⟩]
      rw [stepN_some (st:=(l,bad)) hnum] at hk
      have hex:(bs l).extract (i+1).toNat (bs l).size=bs (l.drop (i.toNat+1)):=by
        rw [bs_ext,hsz,show (i+1).toNat=i.toNat+1 by omega]
        congr 1
        exact List.take_of_length_le (by rw [List.length_drop];omega)
      refine ⟨bs l,cx.get 0 rfl rfl,?_,⟨by omega,by omega,Nat.le_refl _⟩,fun w G cx=>⟨cx.can 0 rfl (by simp),fun w' hw'=>?_⟩⟩
      · unfold I64
        omega
      rw [hex] at hw'
      exact ⟨rd b (l.drop (i.toNat+1),bad) :: S,Φ,inferInstance,cx.put 0 hw' rfl,fun w G cx=>hk w cx.left⟩
  · rw [bs_list] at hn
    refine ⟨[],fun _ _=>True,inferInstance,fun w G cx=>(cx.weak fun _ _ _=>trivial).right,true,fun w=>?_,Br.intro (fun _=>fun w G cx=>failK ?_ w G cx) (fun h=>by cases h)⟩
    · exact neq_err (by decide +kernel) w
    · unfold numP
      simp only [hi]
      rw [if_neg (by omega)]
theorem number_to [Stable Φ] (hΦ:∀ M w,Φ M w→NumI M w) (e:Int) (least:Int) (hl:st.1.length≤1000000000000000) (c:Ctx W w (rd b st :: S++G) Φ) {K:Int→List Own→PW→Prop}
    (hk:K (stepN e.toNat.toUInt8 least st).1 (rd b (stepN e.toNat.toUInt8 least st).2 :: S) Φ) :
    Calls Tryz.prog F.wire_Reader_number #[.pointer (some ⟨b,0,none⟩),.int .u8 e,.int .i64 least] w fun e w'=>∃ n,e=.returned (.int .i64 n)∧∃ R' Φ',Stable Φ'∧Ctx W w' (R'++G) Φ'∧K n R' Φ' :=
  number_use (S:=S++G) hΦ e least hl c fun w' c=>⟨_,rfl,_,Φ,inferInstance,c,hk⟩
def rdInt (st:RdS):Int × RdS:=stepN 59 (-9223372036854775808) st
def rdNat (st:RdS):Int × RdS:=stepN 59 0 st
theorem RInt_to [Stable Φ] (hΦ:∀ M w,Φ M w→NumI M w) (hl:st.1.length≤1000000000000000) (c:Ctx W w (rd b st :: S++G) Φ) {K:Int→List Own→PW→Prop}
    (hk:K (rdInt st).1 (rd b (rdInt st).2 :: S) Φ) :
    Calls Tryz.prog F.wire_Reader_Int #[.pointer (some ⟨b,0,none⟩)] w fun e w'=>∃ n,e=.returned (.int .i64 n)∧∃ R' Φ',Stable Φ'∧Ctx W w' (R'++G) Φ'∧K n R' Φ':=by
  refine (Bwire_Reader_Int_run b 0 (J:=fun u w'=>∃ n,(Ending.returned u)=.returned (.int .i64 n)∧∃ R' Φ',Stable Φ'∧Ctx W w' (R'++G) Φ'∧K n R' Φ') (R:=rd b st :: (S++G)) c ?_).mono fun e w' ⟨v,he,hj⟩=>by rw [he];exact hj
  exact fun w F1 cx=>number_to (S:=S++G) hΦ 59 _ hl cx fun w F1 cx=>⟨_,rfl,_,Φ,inferInstance,cx.left,hk⟩
theorem RNum_to [Stable Φ] (hΦ:∀ M w,Φ M w→NumI M w) (hl:st.1.length≤1000000000000000) (c:Ctx W w (rd b st :: S++G) Φ) {K:Int→List Own→PW→Prop}
    (hk:K (rdNat st).1 (rd b (rdNat st).2 :: S) Φ) :
    Calls Tryz.prog F.wire_Reader_Num #[.pointer (some ⟨b,0,none⟩)] w fun e w'=>∃ n,e=.returned (.int .i64 n)∧∃ R' Φ',Stable Φ'∧Ctx W w' (R'++G) Φ'∧K n R' Φ':=by
  refine (Bwire_Reader_Num_run b 0 (J:=fun u w'=>∃ n,(Ending.returned u)=.returned (.int .i64 n)∧∃ R' Φ',Stable Φ'∧Ctx W w' (R'++G) Φ'∧K n R' Φ') (R:=rd b st :: (S++G)) c ?_).mono fun e w' ⟨v,he,hj⟩=>by rw [he];exact hj
  exact fun w F1 cx=>number_to (S:=S++G) hΦ 59 _ hl cx fun w F1 cx=>⟨_,rfl,_,Φ,inferInstance,cx.left,hk⟩
theorem Left_to [Stable Φ] (c:Ctx W w (rd b st :: S++G) Φ) {K:Int→List Own→PW→Prop} (hk:K st.1.length (rd b st :: S) Φ) :
    Calls Tryz.prog F.wire_Reader_Left #[.pointer (some ⟨b,0,none⟩)] w fun e w'=>∃ n,e=.returned (.int .i64 n)∧∃ R' Φ',Stable Φ'∧Ctx W w' (R'++G) Φ'∧K n R' Φ':=by
  refine (Bwire_Reader_Left_run b 0 (J:=fun u w'=>∃ n,(Ending.returned u)=.returned (.int .i64 n)∧∃ R' Φ',Stable Φ'∧Ctx W w' (R'++G) Φ'∧K n R' Φ') (R:=rd b st :: (S++G)) c ?_).mono fun e w' ⟨v,he,hj⟩=>by rw [he];exact hj
  exact fun w F1 cx=>⟨bs st.1,cx.get 0 rfl rfl,fun w F1 cx=>⟨st.1.length,by rw [bs_size],_,Φ,inferInstance,cx.left,hk⟩⟩
def rdDone (st:RdS):Bool := !st.2&&decide (st.1=[])
theorem Done_to [Stable Φ] (c:Ctx W w (rd b st :: S++G) Φ) {K:Bool→List Own→PW→Prop} (hk:K (rdDone st) (rd b st :: S) Φ) :
    Calls Tryz.prog F.wire_Reader_Done #[.pointer (some ⟨b,0,none⟩)] w fun e w'=>∃ n,e=.returned (.bool n)∧∃ R' Φ',Stable Φ'∧Ctx W w' (R'++G) Φ'∧K n R' Φ':=by
  refine (Bwire_Reader_Done_run b 0 (J:=fun u w'=>∃ n,(Ending.returned u)=.returned (.bool n)∧∃ R' Φ',Stable Φ'∧Ctx W w' (R'++G) Φ'∧K n R' Φ') (R:=rd b st :: (S++G)) c ?_).mono fun e w' ⟨v,he,hj⟩=>by rw [he];exact hj
  refine fun w F1 cx=>⟨st.2,cx.get 0 rfl rfl,bs st.1,fun _=>cx.get 0 rfl rfl,fun w F1 cx=>⟨rdDone st,?_,_,Φ,inferInstance,cx.left,hk⟩⟩
  have e:decide (bs st.1=ByteArray.mk #[])=decide (st.1=[]):=by
    rw [show ByteArray.mk #[]=bs [] from rfl]
    exact decide_eq_decide.2 bs_inj
  rw [e]
  rfl
theorem prefix_one (c:UInt8) (l:List UInt8):Lib.hasPrefix l [c]=(match l with | []=>false|x :: _=>x == c):=by
  cases l with
  | nil=>rfl
  | cons x r =>
    unfold Lib.hasPrefix
    rw [List.isPrefixOf_cons_cons]
    simp [Bool.beq_comm]
theorem close_to [Stable Φ] (e:UInt8) (c:Ctx W w (rd b st :: S++G) Φ) {K:List Own→PW→Prop} (hk:K (rd b (stepC e st) :: S) Φ) :
    Calls Tryz.prog F.wire_Reader_close #[.pointer (some ⟨b,0,none⟩),.string (ByteArray.mk #[e])] w fun e w'=>e=.returned (.tuple #[])∧∃ R' Φ',Stable Φ'∧Ctx W w' (R'++G) Φ'∧K R' Φ':=by
  refine (Bwire_Reader_close_run b 0 (ByteArray.mk #[e]) (J:=fun u w'=>(Ending.returned u)=.returned (.tuple #[])∧∃ R' Φ',Stable Φ'∧Ctx W w' (R'++G) Φ'∧K R' Φ') (R:=rd b st :: (S++G)) c ?_).mono fun e w' ⟨v,he,hj⟩=>by rw [he];exact hj
  clear c
  obtain ⟨l,bad⟩:=st
  refine fun w F1 cx=>⟨bs l,cx.get 0 rfl rfl,fun w F1 cx=>?_⟩
  refine (Any.strings_CutPrefix Tryz.lays103 (bs l) (ByteArray.mk #[e]) w).mono fun e2 w' ⟨he,hw⟩=>?_
  subst hw
  refine ⟨_,_,he,rd b (l,bad) :: (S++G),Φ,inferInstance,cx,?_⟩
  clear cx
  rw [bs_list,show (ByteArray.mk #[e]).data.toList=[e] from rfl]
  unfold Lib.trimPrefix
  rw [prefix_one]
  unfold stepC at hk
  cases l with
  | nil =>
    refine fun w F1 cx=>⟨cx.can 0 rfl (by simp),fun w' hw'=>⟨rd b ([],bad) :: (S++G),Φ,inferInstance,cx.put 0 hw' rfl,Br.intro (fun _=>fun w F1 cx=>fail_to (S:=S++G) cx fun w F1 cx=>⟨by first|trivial|rfl,_,Φ,inferInstance,cx.left,hk⟩) (fun h=>by cases h)⟩⟩
  | cons x r =>
    simp only at hk ⊢
    by_cases hx:x=e
    · subst hx
      rw [if_pos rfl] at hk
      rw [if_pos (by simp)]
      refine fun w F1 cx=>⟨cx.can 0 rfl (by simp),fun w' hw'=>⟨rd b (r,bad) :: (S++G),Φ,inferInstance,cx.put 0 hw' rfl,Br.intro (fun h=>by simp at h) (fun _=>fun w F1 cx=>⟨by first|trivial|rfl,_,Φ,inferInstance,cx.left,hk⟩)⟩⟩
    · rw [if_neg hx] at hk
      rw [if_neg (by simpa using hx)]
      refine fun w F1 cx=>⟨cx.can 0 rfl (by simp),fun w' hw'=>⟨rd b (x :: r,bad) :: (S++G),Φ,inferInstance,cx.put 0 hw' rfl,Br.intro (fun _=>fun w F1 cx=>fail_to (S:=S++G) cx fun w F1 cx=>⟨by first|trivial|rfl,_,Φ,inferInstance,cx.left,hk⟩) (fun h=>by simp at h;exact absurd h hx)⟩⟩
theorem stepN_nonneg {e:UInt8} (he:e.toNat=58∨e.toNat=59∨e.toNat=91) (st:RdS):0≤(stepN e 0 st).1∧(stepN e 0 st).1≤9223372036854775807:=by
  unfold stepN
  split
  · rename_i n r h
    obtain ⟨⟨h1,h2⟩,_⟩:=(numP_iff he).1 h
    unfold I64 at h1
    simp only;omega
  · simp only;omega
theorem stepN_len (e:UInt8) (least:Int) (st:RdS):(stepN e least st).2.1.length≤st.1.length:=by
  unfold stepN
  split
  · rename_i n r h
    unfold numP at h
    simp only at h
    split at h
    · cases h
    · split at h
      · split at h
        · cases h
          simp only [List.length_drop];omega
        · cases h
      · cases h
  · simp
theorem Text_to [Stable Φ] (hΦ:∀ M w,Φ M w→NumI M w) (hl:st.1.length≤1000000000000000) (c:Ctx W w (rd b st :: S++G) Φ) {K:ByteArray→List Own→PW→Prop}
    (hk:K (stepT st).1 (rd b (stepT st).2 :: S) Φ) :
    Calls Tryz.prog F.wire_Reader_Text #[.pointer (some ⟨b,0,none⟩)] w fun e w'=>∃ n,e=.returned (.string n)∧∃ R' Φ',Stable Φ'∧Ctx W w' (R'++G) Φ'∧K n R' Φ':=by
  refine (Bwire_Reader_Text_run b 0 (J:=fun u w'=>∃ n,(Ending.returned u)=.returned (.string n)∧∃ R' Φ',Stable Φ'∧Ctx W w' (R'++G) Φ'∧K n R' Φ') (R:=rd b st :: (S++G)) c ?_).mono fun e w' ⟨v,he,hj⟩=>by rw [he];exact hj
  clear c
  refine fun w F1 cx=>number_to (S:=S++G) hΦ 58 0 hl cx ?_
  rw [show ((58:Int).toNat.toUInt8)=(58:UInt8) from rfl]
  unfold stepT at hk
  simp only at hk
  have hn:=stepN_nonneg (e:=58) (.inl rfl) st
  obtain ⟨⟨n,l,bad⟩,ha⟩:∃ a,stepN 58 0 st=a:=⟨_,rfl⟩
  rw [ha] at hk hn ⊢
  simp only at hk hn ⊢
  refine fun w F1 cx=>⟨bs l,cx.get 0 rfl rfl,Br.intro (fun h=>?_) (fun h=>?_)⟩
  · have h:=of_decide_eq_true h
    rw [bs_size] at h
    rw [if_pos h] at hk
    exact fun w F1 cx=>fail_to (S:=S++G) cx fun w F1 cx=>⟨_,rfl,_,Φ,inferInstance,cx.left,hk⟩
  · have h:=of_decide_eq_false h
    rw [bs_size] at h
    rw [if_neg h] at hk
    have e1:(bs l).extract n.toNat (bs l).size=bs (l.drop n.toNat):=by
      rw [bs_ext,bs_size]
      congr 1
      exact List.take_of_length_le (by rw [List.length_drop];omega)
    have e2:(bs l).extract 0 n.toNat=bs (l.take n.toNat):=by rw [bs_ext,List.drop_zero,Nat.sub_zero]
    refine fun w F1 cx=>⟨bs l,cx.get 0 rfl rfl,⟨by omega,by rw [bs_size];omega⟩,fun w F1 cx=>⟨bs l,cx.get 0 rfl rfl,⟨by omega,by rw [bs_size];omega,Nat.le_refl _⟩,fun w F1 cx=>⟨cx.can 0 rfl (by simp),fun w' hw'=>?_⟩⟩⟩
    rw [e1] at hw'
    refine ⟨rd b (l.drop n.toNat,bad) :: (S++G),Φ,inferInstance,cx.put 0 hw' rfl,fun w F1 cx=>close_to (S:=S++G) 44 cx fun w F1 cx=>⟨(stepC 44 (l.drop n.toNat,bad)).2,cx.get 0 rfl rfl,Br.intro (fun hb=>?_) (fun hb=>?_)⟩⟩
    · rw [hb] at hk
      exact fun w F1 cx=>⟨_,rfl,_,Φ,inferInstance,cx.left,hk⟩
    · rw [hb] at hk
      rw [e2]
      exact fun w F1 cx=>⟨_,rfl,_,Φ,inferInstance,cx.left,hk⟩
end
end Go.Proofs.YtfccagphnfceiaaGreatDoor
end

section
namespace Go.Proofs.YtfccagphnfceiaaGreatDoor
open Go.Vc
def stepV (st:RdS):ValD × RdS:=(⟨(rdInt st).1,(rdInt (rdInt st).2).1,(stepT (rdInt (rdInt st).2).2).1⟩,(stepT (rdInt (rdInt st).2).2).2)
def rowLoop:Nat→RdS→List ValD→Option (List ValD × RdS)
  | 0,st,acc=>some (acc,st)
  | n+1,st,acc=>if st.1=[] then none else rowLoop n (stepV st).2 (acc++[(stepV st).1])
def readRowP (l:List UInt8):Option (List ValD):=match rowLoop (rdNat (l,false)).1.toNat (rdNat (l,false)).2 [] with
  | some (acc,st)=>if rdDone st then some acc else none
  | none=>none
theorem num_read {e:UInt8} (he:e.toNat=58∨e.toNat=59∨e.toNat=91) {least n:Int} {r:List UInt8} {bad:Bool} (h:I64 n) (h2:least≤n):stepN e least (Lib.itoa n++e :: r,bad)=(n,(r,bad)) :=
  stepN_some (st:=(Lib.itoa n++e :: r,bad)) ((numP_iff he).2 ⟨⟨h,h2⟩,rfl⟩)
theorem intB_list (n:Int):(intB n).data.toList=Lib.itoa n++[59]:=by
  unfold intB numB
  rw [ByteArray.data_append,Array.toList_append]
theorem int_read {n:Int} {r:List UInt8} {bad:Bool} (h:I64 n):rdInt ((intB n).data.toList++r,bad)=(n,(r,bad)):=by
  rw [intB_list,List.append_assoc]
  exact num_read (.inr (.inl rfl)) h h.1
theorem nat_read {n:Nat} {r:List UInt8} {bad:Bool} (h:(n:Int)≤9223372036854775807):rdNat ((natB n).data.toList++r,bad)=((n:Int),(r,bad)):=by
  unfold natB
  rw [if_neg (by omega),intB_list,List.append_assoc]
  exact num_read (.inr (.inl rfl)) (by unfold I64;omega) (by omega)
theorem textB_list (s:ByteArray):(textB s).data.toList=Lib.itoa s.size++58 :: (s.data.toList++[44]):=by
  unfold textB numB
  simp [ByteArray.data_append]
theorem text_read {s:ByteArray} {r:List UInt8} (h:s.size≤9223372036854775807):stepT ((textB s).data.toList++r,false)=(s,(r,false)):=by
  have e1:stepN 58 0 ((textB s).data.toList++r,false)=((s.size:Int),(s.data.toList++44 :: r,false)):=by
    rw [textB_list,List.append_assoc,List.cons_append,List.append_assoc]
    exact num_read (.inl rfl) (by unfold I64;omega) (by omega)
  unfold stepT
  simp only [e1]
  have hl:s.data.toList.length=s.size:=list_size s
  rw [if_neg (by rw [List.length_append,List.length_cons,hl];omega),Int.toNat_natCast,List.drop_left' hl,List.take_left' hl]
  rfl
theorem val_read {v:ValD} {r:List UInt8} (h1:I64 v.kind) (h2:I64 v.num) (h3:v.text.size≤9223372036854775807):stepV ((valB v).data.toList++r,false)=(v,(r,false)):=by
  have e:(valB v).data.toList++r=(intB v.kind).data.toList++((intB v.num).data.toList++((textB v.text).data.toList++r)):=by
    unfold valB
    simp [ByteArray.data_append]
  unfold stepV
  rw [e,int_read h1]
  simp only
  rw [int_read h2]
  simp only
  rw [text_read h3]
theorem valB_pos (v:ValD) (h:I64 v.kind):(valB v).data.toList≠[]:=fun e=>by
  have h1:=intB_size h
  have h2:=congrArg List.length e
  rw [list_size] at h2
  unfold valB at h2
  rw [size_app,size_app,List.length_nil] at h2
  omega
def FitV (v:ValD):Prop:=(I64 v.kind∧I64 v.num)∧v.text.size≤9223372036854775807
theorem vals_read:∀ (r:List ValD) (acc:List ValD) (t:List UInt8),(∀ v∈r,FitV v)→rowLoop r.length (valsL r++t,false) acc=some (acc++r,(t,false))
  | [],acc,t,_=>by simp [rowLoop,valsL]
  | v :: r,acc,t,h=>by
    obtain ⟨⟨h1,h2⟩,h3⟩:=h v (by simp)
    have e:valsL (v :: r)++t=(valB v).data.toList++(valsL r++t):=by simp [valsL]
    have hp:=valB_pos v h1
    rw [e,List.length_cons,rowLoop,if_neg (by intro e;exact hp (List.append_eq_nil_iff.1 e).1),val_read h1 h2 h3]
    simp only
    rw [vals_read r _ t fun u hu=>h u (by simp [hu]),List.append_assoc]
    rfl
theorem row_read {r:List ValD} (h:∀ v∈r,FitV v) (hl:r.length≤9223372036854775807):readRowP (rowL r)=some r:=by
  have h1:=vals_read r [] [] h
  rw [List.append_nil,List.nil_append] at h1
  unfold readRowP rowL
  rw [nat_read (by omega)]
  simp only [Int.toNat_natCast]
  rw [h1]
  rfl
theorem stepC_len (c:UInt8) (st:RdS):(stepC c st).1.length≤st.1.length:=by
  unfold stepC
  split
  · simp
  · rename_i h
    split
    · rw [h];simp
    · simp
theorem stepT_len (st:RdS):(stepT st).2.1.length≤st.1.length∧(stepT st).1.size≤st.1.length:=by
  have h1:=stepN_len 58 0 st
  have h2:=stepC_len 44 (((stepN 58 0 st).2.1.drop (stepN 58 0 st).1.toNat,(stepN 58 0 st).2.2))
  rw [List.length_drop] at h2
  unfold stepT
  simp only
  split
  · exact ⟨Nat.zero_le _,Nat.zero_le _⟩
  · refine ⟨by simp only;omega,?_⟩
    simp only
    split
    · exact Nat.zero_le _
    · rw [bs_size,List.length_take];omega
theorem stepN_eats (e:UInt8) (least:Int) (st:RdS) (h:st.1≠[]):(stepN e least st).2.1.length<st.1.length:=by
  have hp:=List.length_pos_iff.2 h
  unfold stepN
  split
  · rename_i n r h
    unfold numP at h
    simp only at h
    split at h
    · cases h
    · split at h
      · split at h
        · cases h
          simp only [List.length_drop];omega
        · cases h
      · cases h
  · simpa using hp
theorem stepV_len (st:RdS):(stepV st).2.1.length≤st.1.length∧(st.1≠[]→(stepV st).2.1.length<st.1.length)∧(stepV st).1.text.size≤st.1.length:=by
  have a:=stepN_len 59 (-9223372036854775808) st
  have b:=stepN_len 59 (-9223372036854775808) (rdInt st).2
  have c:=stepT_len (rdInt (rdInt st).2).2
  have a':(rdInt st).2.1.length≤st.1.length:=a
  have b':(rdInt (rdInt st).2).2.1.length≤(rdInt st).2.1.length:=b
  unfold stepV
  refine ⟨by simp only;omega,fun h=>?_,by simp only;omega⟩
  have d:(rdInt st).2.1.length<st.1.length:=stepN_eats 59 (-9223372036854775808) st h
  simp only;omega
theorem rdInt_i64 (st:RdS):I64 (rdInt st).1:=by
  unfold rdInt stepN
  split
  · rename_i n r h
    exact ((numP_iff (.inr (.inl rfl))).1 h).1.1
  · unfold I64;simp
theorem rowLoop_fit {L:Nat}:∀ (n:Nat) (st:RdS) (acc:List ValD) (out:List ValD) (st':RdS),rowLoop n st acc=some (out,st')→acc.length+st.1.length≤L→(∀ v∈acc,v.text.size≤L)→out.length+st'.1.length≤L∧∀ v∈out,v.text.size≤L
  | 0,st,acc,out,st',h,h1,h2=>by
    unfold rowLoop at h
    cases h
    exact ⟨h1,h2⟩
  | n+1,st,acc,out,st',h,h1,h2=>by
    unfold rowLoop at h
    split at h
    · cases h
    · rename_i hne
      obtain ⟨a,b,c⟩:=stepV_len st
      have b:=b hne
      refine rowLoop_fit n _ _ out st' h (by rw [List.length_append,List.length_singleton];omega) fun v hv=>?_
      rcases List.mem_append.1 hv with hv|hv
      · exact h2 v hv
      · rw [List.mem_singleton.1 hv];omega
theorem readRow_fit {l:List UInt8} {r:List ValD} (h:readRowP l=some r):r.length≤l.length∧∀ v∈r,v.text.size≤l.length:=by
  unfold readRowP at h
  split at h
  · rename_i acc st hl
    split at h
    · cases h
      have hn:(rdNat (l,false)).2.1.length≤l.length:=stepN_len 59 0 (l,false)
      have:=rowLoop_fit (L:=l.length) _ _ _ _ _ hl (by simp only [List.length_nil];omega) (by simp)
      exact ⟨by omega,this.2⟩
    · cases h
  · cases h
section
variable {W w:World} {R G S:List Own} {Φ:PW} {b:Nat} {st:RdS}
theorem take_to [Stable Φ] (hΦ:∀ M w,Φ M w→NumI M w) (hl:st.1.length≤1000000000) (c:Ctx W w (rd b st :: S++G) Φ) {K:Int→Int→ByteArray→List Own→PW→Prop}
    (hk:K (stepV st).1.kind (stepV st).1.num (stepV st).1.text (rd b (stepV st).2 :: S) Φ) :
    Calls Tryz.prog F.value_take #[.pointer (some ⟨b,0,none⟩)] w fun e w'=>∃ n m s,e=.returned (.agg #[.int .i64 n,.int .i64 m,.string s])∧∃ R' Φ',Stable Φ'∧Ctx W w' (R'++G) Φ'∧K n m s R' Φ':=by
  refine (Bvalue_take_run b 0 (J:=fun u w'=>∃ n m s,(Ending.returned u)=.returned (.agg #[.int .i64 n,.int .i64 m,.string s])∧∃ R' Φ',Stable Φ'∧Ctx W w' (R'++G) Φ'∧K n m s R' Φ') (R:=rd b st :: (S++G)) c ?_).mono fun e w' ⟨v,he,hj⟩=>by rw [he];exact hj
  have a:(rdInt st).2.1.length≤st.1.length:=stepN_len 59 (-9223372036854775808) st
  have b:(rdInt (rdInt st).2).2.1.length≤(rdInt st).2.1.length:=stepN_len 59 (-9223372036854775808) (rdInt st).2
  exact fun _ w F1 cx=>RInt_to (S:=S++G) hΦ (by omega) cx fun w F1 cx=>RInt_to (S:=S++G) hΦ (by omega) cx fun _ w F1 cx=>Text_to (S:=S++G) hΦ (by omega) cx fun w F1 cx=>⟨_,_,_,rfl,_,Φ,inferInstance,cx.left,hk⟩
theorem rep_of {M:List Nat} {w:World} {v:ValD} (h1:I64 v.kind) (h2:I64 v.num) (h3:v.text.size≤maxLen):Gv.rep M w [.int .i64 v.kind,.int .i64 v.num,.string v.text] v :=
  ⟨[.int .i64 v.kind],[.int .i64 v.num,.string v.text],rfl,⟨rfl,h1⟩,[.int .i64 v.num],[.string v.text],rfl,⟨rfl,h2⟩,rfl,h3⟩
set_option maxHeartbeats 1000000 in
theorem ReadRow_use [Stable Φ] (hΦ:∀ M w,Φ M w→NumI M w) (l:List UInt8) (hl:l.length≤10000000) (c:Ctx W w S Φ) {K:Ending→World→Prop}
    (h0:readRowP l=none→∀ w',Ctx W w' S Φ→K (.returned (.tuple #[.slice none 0 0,.bool false])) w')
    (h1:∀ r p cap w',readRowP l=some r→r.length≤cap→cap≤maxLen→Ctx W w' S (fun M w=>Φ M w∧Sl M w p r)→K (.returned (.tuple #[.slice p r.length cap,.bool true])) w') :
    Calls Tryz.prog F.value_ReadRow #[.string (bs l)] w K:=by
  refine (Bvalue_ReadRow_run (bs l) (J:=fun u w'=>K (.returned u) w') (R:=S) c ?_).mono fun e w' ⟨v,he,hj⟩=>by rw [he];exact hj
  clear c
  refine fun w G cx=>Open_use l cx fun b w cx=>⟨_,rfl,rd b (l,false) :: S,Φ,inferInstance,cx,?_⟩
  clear cx
  refine fun w G cx=>RNum_to (S:=S) hΦ (by simp only;omega) cx ?_
  clear cx
  have hlen:(rdNat (l,false)).2.1.length≤l.length:=stepN_len 59 0 (l,false)
  have hnn:=stepN_nonneg (e:=59) (.inr (.inl rfl)) (l,false)
  have hrow:readRowP l=match rowLoop (rdNat (l,false)).1.toNat (rdNat (l,false)).2 [] with
    | some (acc,st)=>if rdDone st then some acc else none
    | none=>none:=rfl
  have hnn:0≤(rdNat (l,false)).1∧(rdNat (l,false)).1≤9223372036854775807:=hnn
  obtain ⟨⟨n0,st0⟩,hst⟩:∃ x,rdNat (l,false)=x:=⟨_,rfl⟩
  rw [hst] at hlen hnn hrow ⊢
  simp only at hlen hnn hrow ⊢
  refine exI_mk (fun p n c m R' Φ' k=>∃ (st:RdS) (acc:List ValD) (ds:List Value),n=acc.length∧R'=.buf p n c ds 147 3 :: rd b st :: S∧Φ'=(fun M w=>Φ M w∧Elems M w ds acc)∧k=m.toNat∧0≤m∧m≤9223372036854775807∧acc.length+st.1.length≤l.length∧rowLoop n0.toNat st0 []=rowLoop m.toNat st acc)
    ⟨⟨.buf none 0 0 [] 147 3 :: rd b st0 :: S,fun M w=>Φ M w∧Elems M w [] ([]:List ValD),_,inferInstance,fun w G cx=>(cx.nobuf 147 3).weak fun M w h=>⟨h,Elems.nil⟩,st0,[],[],rfl,rfl,rfl,rfl,hnn.1,hnn.2,by simp only [List.length_nil];omega,rfl⟩,?_⟩
  rintro p n c m R1 Φ1 k _ ⟨st,acc,ds,rfl,rfl,rfl,rfl,hm0,hm1,hal,hrl⟩
  have hst1:Stable (fun M w=>Φ M w∧Elems M w ds acc):=inferInstance
  refine Br.intro (fun hpos=>?_) (fun hz=>?_)
  · have hpos:=of_decide_eq_true hpos
    refine fun w G cx=>Left_to (S:=.buf p acc.length c ds 147 3 :: S) cx.swap ?_
    refine Br.intro (fun hz=>fun w G cx=>?_) (fun hnz=>?_)
    · have hz:=of_decide_eq_true hz
      refine h0 ?_ w (cx.left.drop1.drop1.weak fun M w h=>h.1)
      rw [hrow,hrl,show m.toNat=(m.toNat - 1)+1 by omega,rowLoop,if_pos (List.length_eq_zero_iff.1 (by omega))]
    · have hnz:=of_decide_eq_false hnz
      have hne:st.1≠[]:=fun e=>hnz (by rw [e];rfl)
      obtain ⟨q1,q2,q3⟩:=stepV_len st
      have q2:=q2 hne
      have hi1:=rdInt_i64 st
      have hi2:=rdInt_i64 (rdInt st).2
      refine fun w G cx=>take_to (S:=.buf p acc.length c ds 147 3 :: S) (fun M w h=>hΦ M w h.1) (by omega) cx ?_
      refine fun bk w G cx=>?_
      have cx1:Ctx W w (.blk bk [.int .i64 (stepV st).1.kind,.int .i64 (stepV st).1.num,.string (stepV st).1.text] 147 :: .buf p acc.length c ds 147 3 :: (rd b (stepV st).2 :: S++G)) (fun M w=>Φ M w∧Elems M w ds acc):=cx.perm ((List.Perm.swap _ _ _).cons _)
      obtain ⟨p',cap',w',hrun,_,cx'⟩:=Ctx.app1 (P:=Tryz.prog) (ts:=29) (ty:=29) (kb:=#[false,false]) (size:=3) (bytes:=32) cx1 (by kernel_rfl) (by omega) rfl rfl (by omega) (by omega)
      have hst2:Stable (fun M w=>Φ M w∧Elems M w (ds++[.int .i64 (stepV st).1.kind,.int .i64 (stepV st).1.num,.string (stepV st).1.text]) (acc++[(stepV st).1])):=inferInstance
      have hcx2:Ctx W w' (.buf p' (acc++[(stepV st).1]).length cap' (ds++[.int .i64 (stepV st).1.kind,.int .i64 (stepV st).1.num,.string (stepV st).1.text]) 147 3 :: rd b (stepV st).2 :: S++G) (fun M w=>Φ M w∧Elems M w (ds++[.int .i64 (stepV st).1.kind,.int .i64 (stepV st).1.num,.string (stepV st).1.text]) (acc++[(stepV st).1])):=by
        rw [List.length_append,List.length_singleton]
        exact cx'.weak fun M w h=>⟨h.1,h.2.snoc (rep_of hi1 hi2 (Nat.le_trans q3 (Nat.le_trans (by omega:st.1.length≤10000000) (by decide))))⟩
      refine ⟨p',acc.length+1,cap',w',hrun,_,_,hst2,hcx2,by unfold I64;omega,_,_,(m - 1).toNat,hst2,fun w G cx=>cx,⟨(stepV st).2,acc++[(stepV st).1],_,by simp,by simp,rfl,rfl,by omega,by omega,by rw [List.length_append,List.length_singleton];omega,?_⟩,by omega⟩
      rw [hrl,show m.toNat=(m - 1).toNat+1 by omega,rowLoop,if_neg hne]
  · have hz:=of_decide_eq_false hz
    have hm:m.toNat=0:=by omega
    rw [hm,rowLoop] at hrl
    rw [hrl] at hrow
    simp only at hrow
    refine fun w G cx=>Done_to (S:=.buf p acc.length c ds 147 3 :: S) cx.swap ?_
    refine Br.intro (fun hd=>fun w G cx=>?_) (fun hd=>fun w G cx=>?_)
    · refine h0 ?_ w (cx.left.drop1.drop1.weak fun M w h=>h.1)
      rw [hrow,if_neg (by simpa using hd)]
    · have cx:=cx.left.drop1
      obtain ⟨cx3,hs,_,g1,g2⟩:=Ctx.freeze (α:=ValD) cx.fst cx.phi.2
      exact h1 acc p c w (by rw [hrow,if_pos (by simpa using hd)]) g1 g2 (cx3.add hs)
theorem ReadRow_to [Stable Φ] (hΦ:∀ M w,Φ M w→NumI M w) (l:List UInt8) (hl:l.length≤10000000) (c:Ctx W w (R++G) Φ) {K:Option Addr→Nat→Nat→Bool→List Own→PW→Prop}
    (h0:readRowP l=none→K none 0 0 false R Φ)
    (h1:∀ r p cap,readRowP l=some r→r.length≤cap→cap≤maxLen→Stable (fun M w=>Φ M w∧Sl M w p r)→K p r.length cap true R (fun M w=>Φ M w∧Sl M w p r)) :
    Calls Tryz.prog F.value_ReadRow #[.string (bs l)] w fun e w'=>∃ p n c ok,e=.returned (.tuple #[.slice p n c,.bool ok])∧∃ R' Φ',Stable Φ'∧Ctx W w' (R'++G) Φ'∧K p n c ok R' Φ' :=
  ReadRow_use hΦ l hl c (fun h w' c=>⟨none,0,0,false,rfl,R,Φ,inferInstance,c,h0 h⟩) fun r p cap w' h g1 g2 c=>⟨p,r.length,cap,true,rfl,R,_,inferInstance,c,h1 r p cap h g1 g2 inferInstance⟩
theorem ReadRowS_to [Stable Φ] (hΦ:∀ M w,Φ M w→NumI M w) (s:ByteArray) (hl:s.size≤10000000) (c:Ctx W w (R++G) Φ) {K:Option Addr→Nat→Nat→Bool→List Own→PW→Prop}
    (h0:readRowP s.data.toList=none→K none 0 0 false R Φ)
    (h1:∀ r p cap,readRowP s.data.toList=some r→r.length≤cap→cap≤maxLen→Stable (fun M w=>Φ M w∧Sl M w p r)→K p r.length cap true R (fun M w=>Φ M w∧Sl M w p r)) :
    Calls Tryz.prog F.value_ReadRow #[.string s] w fun e w'=>∃ p n c ok,e=.returned (.tuple #[.slice p n c,.bool ok])∧∃ R' Φ',Stable Φ'∧Ctx W w' (R'++G) Φ'∧K p n c ok R' Φ' :=
  ReadRow_to hΦ s.data.toList (by rw [list_size];exact hl) c h0 h1
end
end Go.Proofs.YtfccagphnfceiaaGreatDoor
end

section
namespace Go.Proofs.YtfccagphnfceiaaGreatDoor
open Go.Vc
def rdL (st:RdS) (nx no:Int) (r:List ValD):LineD × RdS :=
  (⟨nx,no,(rdInt st).1,r,(rdInt (stepT (rdInt st).2).2).1,(rdInt (rdInt (stepT (rdInt st).2).2).2).1,(rdInt (rdInt (rdInt (stepT (rdInt st).2).2).2).2).1⟩,(rdInt (rdInt (rdInt (stepT (rdInt st).2).2).2).2).2)
def lineR (nx no:Int) (st:RdS):Option (LineD × RdS):=(readRowP (stepT (rdInt st).2).1.data.toList).map (rdL st nx no)
theorem lineR_none {nx no:Int} {st:RdS} (h:readRowP (stepT (rdInt st).2).1.data.toList=none):lineR nx no st=none:=by unfold lineR;rw [h];rfl
theorem lineR_some {nx no:Int} {st:RdS} {r:List ValD} (h:readRowP (stepT (rdInt st).2).1.data.toList=some r):lineR nx no st=some (rdL st nx no r):=by unfold lineR;rw [h];rfl
theorem lineR_inv {nx no:Int} {st st':RdS} {x:LineD} (h:lineR nx no st=some (x,st')):∃ r,readRowP (stepT (rdInt st).2).1.data.toList=some r∧rdL st nx no r=(x,st'):=by
  unfold lineR at h
  exact Option.map_eq_some_iff.1 h
attribute [irreducible] lineR
theorem lineS_list (x:LineD) (t:List UInt8):(lineS x).data.toList++t=(intB x.batch).data.toList++((intB x.time).data.toList++((textB (rowB x.row)).data.toList++((intB x.n).data.toList++((intB x.cause).data.toList++((intB x.why).data.toList++t))))):=by
  unfold lineS
  simp [ByteArray.data_append]
theorem line_fit {x:LineD} (h:LineW x):(∀ v∈x.row,FitV v)∧x.row.length≤9223372036854775807∧(rowB x.row).size≤9223372036854775807:=by
  have h1:=rowB_small h.row h.val
  have h2:=h.row
  exact ⟨fun v hv=>⟨(h.val v hv).1,by have:=(h.val v hv).2;omega⟩,by omega,by omega⟩
def lineK (nx:Int) (st:RdS):Option (LineD × RdS):=lineR nx (rdInt st).1 (rdInt st).2
theorem line_read {x:LineD} {n:Int} {t:List UInt8} (h:LineW x):lineK n ((lineS x).data.toList++t,false)=some ({ x with no:=n },(t,false)):=by
  obtain ⟨h3,h4,h5⟩:=line_fit h
  unfold lineK
  rw [lineS_list,int_read h.inn.batch]
  simp only
  have e1:rdInt ((intB x.time).data.toList++((textB (rowB x.row)).data.toList++((intB x.n).data.toList++((intB x.cause).data.toList++((intB x.why).data.toList++t)))),false)=(x.time,((textB (rowB x.row)).data.toList++((intB x.n).data.toList++((intB x.cause).data.toList++((intB x.why).data.toList++t))),false)):=int_read h.inn.time
  have e2:=text_read (r:=(intB x.n).data.toList++((intB x.cause).data.toList++((intB x.why).data.toList++t))) h5
  have e3:readRowP (stepT (rdInt ((intB x.time).data.toList++((textB (rowB x.row)).data.toList++((intB x.n).data.toList++((intB x.cause).data.toList++((intB x.why).data.toList++t)))),false)).2).1.data.toList=some x.row:=by
    rw [e1]
    show readRowP (stepT ((textB (rowB x.row)).data.toList++_,false)).1.data.toList=some x.row
    rw [e2]
    exact row_read h3 h4
  rw [lineR_some e3]
  unfold rdL
  rw [e1]
  simp only
  rw [e2]
  simp only
  rw [int_read h.inn.n]
  simp only
  rw [int_read h.inn.cause]
  simp only
  rw [int_read h.inn.why]
inductive MadeK (kind:Int) (key:List Int):List Int→List LineD→Prop
  | nil:MadeK kind key [] []
  | take {bats:List Int} {lines L:List LineD} {b:Int}:MadeK kind key bats lines→lookK ⟨kind,key,bats,lines,0,[]⟩ b L=0→MadeK kind key (bats++[b]) (lines++L)
structure SkR (s:SkD):Prop where
  ok:newOk s.kind s.key=true
  made:MadeK s.kind s.key s.bats s.lines
  prep:s.prep≠0→s.kind=0∧hasK s s.prep=false∧lookK s s.prep s.aside=0
  none:s.prep=0→s.aside=[]
theorem rdInt_len (st:RdS):(rdInt st).2.1.length≤st.1.length:=stepN_len 59 (-9223372036854775808) st
theorem rdInt_eats (st:RdS):(rdInt st).2=([],true)∧(rdInt st).1=0∨(rdInt st).2.1.length+2≤st.1.length∧(rdInt st).2.2=st.2:=by
  unfold rdInt stepN
  split
  · rename_i n r h
    obtain ⟨⟨h1,_⟩,h2⟩:=(numP_iff (.inr (.inl rfl))).1 h
    have:=itoa_len h1
    right
    rw [h2,List.length_append,List.length_cons]
    simp only
    exact ⟨by omega,trivial⟩
  · exact .inl ⟨rfl,rfl⟩
theorem stepT_eats (st:RdS):(stepT st).1.data.toList=[]∨(stepT st).2.1.length+3+(stepT st).1.size≤st.1.length:=by
  unfold stepT
  simp only
  split
  · exact .inl rfl
  · rename_i h
    by_cases hc:(stepC 44 ((stepN 58 0 st).2.1.drop (stepN 58 0 st).1.toNat,(stepN 58 0 st).2.2)).2=true
    · left
      rw [if_pos hc]
    · right
      simp only
      rw [if_neg hc,bs_size,List.length_take]
      unfold stepN at hc ⊢
      split at hc
      · rename_i n r hn
        obtain ⟨⟨h1,_⟩,h2⟩:=(numP_iff (.inl rfl)).1 hn
        have:=itoa_len h1
        simp only at hc ⊢
        unfold stepC at hc ⊢
        simp only at hc ⊢
        split at hc
        · exact absurd rfl hc
        · rename_i x r2 hx
          have hlen:=congrArg List.length hx
          rw [List.length_drop,List.length_cons] at hlen
          split at hc
          · rename_i hxe
            rw [if_pos hxe,h2,List.length_append,List.length_cons]
            simp only;omega
          · exact absurd rfl hc
      · exfalso
        apply hc
        rfl
theorem readRow_pos {l:List UInt8} {r:List ValD} (h:readRowP l=some r):2≤l.length:=by
  unfold readRowP at h
  rcases Nat.lt_or_ge l.length 2 with h1|h1
  · exfalso
    have e:rdNat (l,false)=(0,([],true)):=by
      refine stepN_none ?_
      rcases hn:numP 59 0 l with _|⟨n,r2⟩
      · rfl
      · obtain ⟨⟨g1,_⟩,g2⟩:=(numP_iff (.inr (.inl rfl))).1 hn
        have:=itoa_len g1
        rw [g2,List.length_append,List.length_cons] at h1
        omega
    rw [e] at h
    cases h
  · exact h1
theorem line_eats {nx no:Int} {st st':RdS} {x:LineD} (h:lineR nx no st=some (x,st')):st'.1.length+7≤st.1.length∧x.row.length≤st.1.length∧(∀ v∈x.row,v.text.size≤st.1.length)∧I64 x.time∧I64 x.n∧I64 x.cause∧I64 x.why∧x.no=nx∧x.batch=no:=by
  obtain ⟨r,hr,he⟩:=lineR_inv h
  obtain ⟨f1,f2⟩:=readRow_fit hr
  have hp:=readRow_pos hr
  unfold rdL at he
  injection he with e1 e2
  subst e1 e2
  rcases stepT_eats (rdInt st).2 with e|e
  · rw [e] at hp
    simp at hp
  · rw [list_size] at hp f1 f2
    rcases rdInt_eats st with ⟨e2,_⟩|⟨e2,_⟩
    · rw [e2,List.length_nil] at e
      omega
    · have a:=rdInt_len (stepT (rdInt st).2).2
      have b:=rdInt_len (rdInt (stepT (rdInt st).2).2).2
      have c:=rdInt_len (rdInt (rdInt (stepT (rdInt st).2).2).2).2
      refine ⟨by omega,?_,fun v hv=>?_,rdInt_i64 _,rdInt_i64 _,rdInt_i64 _,rdInt_i64 _,rfl,rfl⟩
      · show r.length≤_
        omega
      · have:=f2 v hv
        omega
end Go.Proofs.YtfccagphnfceiaaGreatDoor
end

section
namespace Go.Proofs.YtfccagphnfceiaaGreatDoor
open Go.Vc
end Go.Proofs.YtfccagphnfceiaaGreatDoor
end

section
namespace Go.Proofs.YtfccagphnfceiaaGreatDoor
open Go.Vc
abbrev Bs:=List UInt8
structure FilD where
  now:Bs
  last:Bs
structure DsS where
  files:Int→FilD
  queue:List (Int × Int)
  lost:Int
  down:Bool
  armed:Int
  keep:List Int
def dsNew:DsS:=⟨fun _=>⟨[],[]⟩,[],0,false,0,[]⟩
def putL (s:Bs) (a:Nat) (t:Bs):Bs:=if t=[] then s else s.take a++List.replicate (a - s.length) 0++t++s.drop (a+t.length)
def DsS.set (d:DsS) (f:Int) (x:FilD):DsS:={ d with files:=fun k=>if k=f then x else d.files k }
def mayS (d:DsS) (f:Int):Int:=if d.down=true then 9 else if f<0∨16≤f then 1 else 0
def secsL (a n:Nat):List Int:=(List.range ((a+n - 1) / 64+1 - a / 64)).map fun i=>((a / 64+i:Nat):Int)
def addQ (f:Int):List Int→List (Int × Int)→List (Int × Int)
  | [],q=>q
  | n :: ns,q=>addQ f ns (if (f,n)∈q then q else q++[(f,n)])
def write0 (d:DsS) (f a:Int) (s:Bs):DsS × Int :=
  if mayS d f≠0 then (d,mayS d f) else if a<0 then (d,1) else if 16777216<a∨16777216 - a<(s.length:Int) then (d,6) else if s=[] then (d,0) else
  ({ d.set f ⟨putL (d.files f).now a.toNat s,(d.files f).last⟩ with queue:=addQ f (secsL a.toNat s.length) d.queue },0)
def endsB (d:DsS):Bool := !d.down&&decide (d.armed=1)
def tickS (d:DsS):DsS:=if d.down=true∨d.armed=0 then d else { d with armed:=d.armed - 1 }
def surv (keep:List Int) (i:Nat) (p:Int × Int) (fs:Int→FilD):Int→FilD :=
  if keep=[]∨keep.getD (i % keep.length) 0 % 2=0∨((fs p.1).now.length:Int)≤p.2*64 then fs
  else fun k=>if k=p.1 then ⟨(fs p.1).now,putL (fs p.1).last (p.2*64).toNat (((fs p.1).now.drop (p.2*64).toNat).take 64)⟩ else fs k
def survs (keep:List Int):Nat→List (Int × Int)→(Int→FilD)→Int→FilD
  | _,[],fs=>fs
  | i,p :: ps,fs=>survs keep (i+1) ps (surv keep i p fs)
def crashS (d:DsS) (keep:List Int):DsS :=
  if d.down=true then d else { d with down:=true,armed:=0,queue:=[],files:=fun k=>⟨(survs keep 0 d.queue d.files k).last,(survs keep 0 d.queue d.files k).last⟩ }
def writeS (d:DsS) (f a:Int) (s:Bs):DsS × Int :=
  if endsB d=true then (crashS (write0 (tickS d) f a s).1 d.keep,9) else write0 (tickS d) f a s
def settleS (d:DsS) (f:Int) (s:Bs):DsS:={ d.set f ⟨s,s⟩ with queue:=d.queue.filter fun p=>decide (p.1≠f) }
def fallS (d:DsS):DsS:=if endsB d=true then crashS (tickS d) d.keep else tickS d
def sync0 (d:DsS) (f:Int):DsS × Int :=
  if mayS d f≠0 then (d,mayS d f) else if 0<d.lost then ({ d with lost:=d.lost - 1 },10) else (settleS d f (d.files f).now,0)
def syncS (d:DsS) (f:Int):DsS × Int:=sync0 (fallS d) f
def readS (d:DsS) (f a n:Int):Bs × Int :=
  if mayS d f≠0 then ([],mayS d f) else if a<0∨n<0 then ([],1) else (((d.files f).now.drop a.toNat).take n.toNat,0)
def startS (d:DsS):DsS:={ d with down:=false }
def loseS (d:DsS) (n:Int):DsS:={ d with lost:=max n 0 }
def armS (d:DsS) (n:Int) (keep:List Int):DsS:={ d with armed:=max n 0,keep:=keep }
structure CelS where
  file:Int
  slot:Nat
  value:Bs
  sure:Bool
def offS (slot:Nat):Nat:=if slot=1 then 64 else if slot=2 then 131072 else 0
def hdrL (slot:Nat) (n:Nat):Bs:=[slot.toUInt8,n.toUInt8,(n / 256).toUInt8,(n / 65536).toUInt8,(n / 16777216).toUInt8]
def hdrN (h:Bs):Nat:=(((h.getD 4 0).toNat*256+(h.getD 3 0).toNat)*256+(h.getD 2 0).toNat)*256+(h.getD 1 0).toNat
def openC (d:DsS) (file:Int):Option CelS × Int :=
  if (readS d file 0 5).2≠0 then (none,(readS d file 0 5).2) else
  if (readS d file 0 5).1=[]∨(readS d file 0 5).1.getD 0 0=0 then (some ⟨file,0,[],false⟩,0) else
  if (readS d file 0 5).1.length<5∨(readS d file 0 5).1.getD 0 0≠1∧(readS d file 0 5).1.getD 0 0≠2 then (none,2) else
  if 65536<hdrN (readS d file 0 5).1 then (none,2) else
  if (readS d file (offS ((readS d file 0 5).1.getD 0 0).toNat) (hdrN (readS d file 0 5).1)).2≠0 then (none,(readS d file (offS ((readS d file 0 5).1.getD 0 0).toNat) (hdrN (readS d file 0 5).1)).2) else
  if (readS d file (offS ((readS d file 0 5).1.getD 0 0).toNat) (hdrN (readS d file 0 5).1)).1.length<hdrN (readS d file 0 5).1 then (none,2) else
  (some ⟨file,((readS d file 0 5).1.getD 0 0).toNat,(readS d file (offS ((readS d file 0 5).1.getD 0 0).toNat) (hdrN (readS d file 0 5).1)).1,false⟩,0)
def setC2 (d:DsS) (c:CelS) (s:Bs) (slot:Nat):DsS × CelS × Int :=
  if (writeS d c.file (offS slot) s).2≠0 then ((writeS d c.file (offS slot) s).1,c,(writeS d c.file (offS slot) s).2) else
  if (syncS (writeS d c.file (offS slot) s).1 c.file).2≠0 then ((syncS (writeS d c.file (offS slot) s).1 c.file).1,c,(syncS (writeS d c.file (offS slot) s).1 c.file).2) else
  if (writeS (syncS (writeS d c.file (offS slot) s).1 c.file).1 c.file 0 (hdrL slot s.length)).2≠0 then ((writeS (syncS (writeS d c.file (offS slot) s).1 c.file).1 c.file 0 (hdrL slot s.length)).1,c,(writeS (syncS (writeS d c.file (offS slot) s).1 c.file).1 c.file 0 (hdrL slot s.length)).2) else
  ((syncS (writeS (syncS (writeS d c.file (offS slot) s).1 c.file).1 c.file 0 (hdrL slot s.length)).1 c.file).1,⟨c.file,slot,s,decide ((syncS (writeS (syncS (writeS d c.file (offS slot) s).1 c.file).1 c.file 0 (hdrL slot s.length)).1 c.file).2=0)⟩,(syncS (writeS (syncS (writeS d c.file (offS slot) s).1 c.file).1 c.file 0 (hdrL slot s.length)).1 c.file).2)
def setC (d:DsS) (c:CelS) (s:Bs):DsS × CelS × Int :=
  if 65536<s.length then (d,c,6) else
  if c.sure=false∧0<c.slot then
    if (syncS d c.file).2≠0 then ((syncS d c.file).1,c,(syncS d c.file).2) else setC2 (syncS d c.file).1 { c with sure:=true } s (if c.slot=1 then 2 else 1)
  else setC2 d c s (if c.slot=1 then 2 else 1)
end Go.Proofs.YtfccagphnfceiaaGreatDoor
end

section
namespace Go.Proofs.YtfccagphnfceiaaGreatDoor
open Go.Vc
theorem putL_nil (s:Bs) (a:Nat):putL s a []=s:=by unfold putL;rw [if_pos rfl]
theorem putL_ne {s t:Bs} {a:Nat} (h:t≠[]):putL s a t=s.take a++List.replicate (a - s.length) 0++t++s.drop (a+t.length):=by unfold putL;rw [if_neg h]
theorem putL_length {s t:Bs} {a:Nat} (h:t≠[]):(putL s a t).length=max s.length (a+t.length):=by
  rw [putL_ne h]
  simp only [List.length_append,List.length_take,List.length_replicate,List.length_drop]
  omega
theorem putL_low {s t:Bs} {a i:Nat} (h:t≠[]) (hi:i<a):(putL s a t)[i]? = if i<s.length then s[i]? else some 0:=by
  rw [putL_ne h,List.append_assoc,List.append_assoc]
  by_cases h1:i<s.length
  · rw [if_pos h1,List.getElem?_append_left (by rw [List.length_take];omega),List.getElem?_take_of_lt hi]
  · rw [if_neg h1,List.getElem?_append_right (by rw [List.length_take];omega),List.length_take,List.getElem?_append_left (by rw [List.length_replicate];omega),List.getElem?_replicate,if_pos (by omega)]
theorem putL_mid {s t:Bs} {a i:Nat} (h:t≠[]) (h1:a≤i) (h2:i<a+t.length):(putL s a t)[i]? = t[i - a]? := by
  rw [putL_ne h,List.append_assoc,List.getElem?_append_right (by simp only [List.length_append,List.length_take,List.length_replicate];omega),List.getElem?_append_left (by simp only [List.length_append,List.length_take,List.length_replicate];omega)]
  simp only [List.length_append,List.length_take,List.length_replicate]
  congr 1
  omega
theorem putL_high {s t:Bs} {a i:Nat} (h:t≠[]) (h1:a+t.length≤i):(putL s a t)[i]? = s[i]? := by
  rw [putL_ne h,List.getElem?_append_right (by simp only [List.length_append,List.length_take,List.length_replicate];omega),List.getElem?_drop]
  simp only [List.length_append,List.length_take,List.length_replicate]
  by_cases h2:a≤s.length
  · congr 1
    omega
  · rw [List.getElem?_eq_none (by omega),List.getElem?_eq_none (by omega)]
def secT (N:Bs) (n:Nat):Bs:=(N.drop (n*64)).take 64
def mixF (N:Bs):List Nat→Bs→Bs
  | [],L=>L
  | n :: ns,L=>mixF N ns (putL L (n*64) (secT N n))
theorem secT_ne {N:Bs} {n:Nat} (h:n*64<N.length):secT N n≠[]:=by
  intro e
  have:=congrArg List.length e
  unfold secT at this
  rw [List.length_take,List.length_drop,List.length_nil] at this
  omega
theorem secT_len (N:Bs) (n:Nat):(secT N n).length=min 64 (N.length - n*64):=by unfold secT;rw [List.length_take,List.length_drop]
theorem secT_get {N:Bs} {n i:Nat} (h1:n*64≤i) (h2:i<n*64+64):(secT N n)[i - n*64]? = N[i]? := by
  unfold secT
  rw [List.getElem?_take_of_lt (by omega),List.getElem?_drop]
  congr 1
  omega
theorem put_sec {N L:Bs} {n i:Nat} (h:n*64<N.length):(putL L (n*64) (secT N n))[i]? = if n*64≤i∧i<n*64+64∧i<N.length then N[i]? else if i<n*64∧L.length≤i then some 0 else L[i]? := by
  have hne:=secT_ne h
  have hl:=secT_len N n
  by_cases h1:i<n*64
  · rw [putL_low hne h1]
    by_cases h2:i<L.length
    · rw [if_pos h2,if_neg (by omega),if_neg (by omega)]
    · rw [if_neg h2,if_neg (by omega),if_pos (by omega)]
  · by_cases h2:i<n*64+(secT N n).length
    · rw [putL_mid hne (by omega) h2,secT_get (by omega) (by omega),if_pos (by omega)]
    · rw [putL_high hne (by omega),if_neg (by omega),if_neg (by omega)]
theorem mix_agree {N:Bs} {i:Nat} {x:UInt8} (hN:N[i]? = some x):∀ (ns:List Nat) (L:Bs),(∀ n∈ns,n*64<N.length)→L[i]? = some x→(mixF N ns L)[i]? = some x
  | [],L,_,h=>h
  | n :: ns,L,hs,h=>by
    refine mix_agree hN ns _ (fun m hm=>hs m (by simp [hm])) ?_
    have hi:i<L.length:=(List.getElem?_eq_some_iff.1 h).1
    rw [put_sec (hs n (by simp))]
    split
    · exact hN
    · rw [if_neg (by omega)];exact h
theorem mix_out {N:Bs} {i:Nat} {x:UInt8}:∀ (ns:List Nat) (L:Bs),(∀ n∈ns,n*64<N.length∧¬ (n*64≤i∧i<n*64+64))→L[i]? = some x→(mixF N ns L)[i]? = some x
  | [],L,_,h=>h
  | n :: ns,L,hs,h=>by
    refine mix_out ns _ (fun m hm=>hs m (by simp [hm])) ?_
    have hi:i<L.length:=(List.getElem?_eq_some_iff.1 h).1
    have h1:=hs n (by simp)
    rw [put_sec h1.1,if_neg (by omega),if_neg (by omega)]
    exact h
theorem mix_zero {N:Bs} {i:Nat} (hN:N.getD i 0=0):∀ (ns:List Nat) (L:Bs),(∀ n∈ns,n*64<N.length)→L.getD i 0=0→(mixF N ns L).getD i 0=0
  | [],L,_,h=>h
  | n :: ns,L,hs,h=>by
    refine mix_zero hN ns _ (fun m hm=>hs m (by simp [hm])) ?_
    rw [List.getD_eq_getElem?_getD,put_sec (hs n (by simp))]
    split
    · rw [←List.getD_eq_getElem?_getD];exact hN
    · split
      · rfl
      · rw [←List.getD_eq_getElem?_getD];exact h
theorem mix_new {N:Bs} {i:Nat} {x:UInt8} (hN:N[i]? = some x):∀ (ns:List Nat) (L:Bs),(∀ n∈ns,n*64<N.length)→i / 64∈ns→(mixF N ns L)[i]? = some x
  | [],L,_,h=>by cases h
  | n :: ns,L,hs,h=>by
    by_cases e:i / 64=n
    · refine mix_agree hN ns _ (fun m hm=>hs m (by simp [hm])) ?_
      have hi:i<N.length:=(List.getElem?_eq_some_iff.1 hN).1
      rw [put_sec (hs n (by simp)),if_pos (by omega)]
      exact hN
    · refine mix_new hN ns _ (fun m hm=>hs m (by simp [hm])) ?_
      rcases List.mem_cons.1 h with h|h
      · exact absurd h e
      · exact h
def secsOf (F:Int) (q:List (Int × Int)):List Nat:=(q.filter fun p=>decide (p.1=F)).map fun p=>p.2.toNat
theorem secsOf_cons (F:Int) (p:Int × Int) (q:List (Int × Int)):secsOf F (p :: q)=if p.1=F then p.2.toNat :: secsOf F q else secsOf F q:=by
  unfold secsOf
  by_cases h:p.1=F
  · rw [List.filter_cons_of_pos (by simpa using h),if_pos h,List.map_cons]
  · rw [List.filter_cons_of_neg (by simpa using h),if_neg h]
theorem surv_now (keep:List Int) (i:Nat) (p:Int × Int) (fs:Int→FilD) (F:Int):(surv keep i p fs F).now=(fs F).now:=by
  unfold surv
  split
  · rfl
  · simp only
    split
    · rename_i h;rw [h]
    · rfl
theorem survs_mix (F:Int):∀ (q:List (Int × Int)) (keep:List Int) (i:Nat) (fs:Int→FilD),(∀ p∈q,0≤p.2) →
    ∃ ns:List Nat,ns.Sublist (secsOf F q)∧(∀ n∈ns,n*64<(fs F).now.length)∧(survs keep i q fs F).now=(fs F).now∧(survs keep i q fs F).last=mixF (fs F).now ns (fs F).last
  | [],keep,i,fs,_=>⟨[],List.Sublist.refl _,by simp,rfl,rfl⟩
  | p :: q,keep,i,fs,hp=>by
    obtain ⟨ns,h1,h2,h3,h4⟩:=survs_mix F q keep (i+1) (surv keep i p fs) (fun x hx=>hp x (by simp [hx]))
    have hn:=surv_now keep i p fs F
    rw [hn] at h2 h3 h4
    have hp0:=hp p (by simp)
    have e:survs keep i (p :: q) fs=survs keep (i+1) q (surv keep i p fs):=rfl
    rw [e,secsOf_cons]
    by_cases hF:p.1=F
    · rw [if_pos hF]
      by_cases hs:keep=[]∨keep.getD (i % keep.length) 0 % 2=0∨((fs p.1).now.length:Int)≤p.2*64
      · have e2:surv keep i p fs=fs:=by unfold surv;rw [if_pos hs]
        rw [e2] at h3 h4
        exact ⟨ns,h1.cons _,h2,by rw [e2];exact h3,by rw [e2];exact h4⟩
      · have e2:(surv keep i p fs F).last=putL (fs F).last (p.2.toNat*64) (secT (fs F).now p.2.toNat):=by
          unfold surv
          rw [if_neg hs,if_pos hF.symm,hF]
          unfold secT
          rw [show (p.2*64).toNat=p.2.toNat*64 by omega]
        rw [e2] at h4
        refine ⟨p.2.toNat :: ns,h1.cons_cons _,fun n hn'=>?_,h3,h4⟩
        rcases List.mem_cons.1 hn' with rfl|hn'
        · rw [hF] at hs
          have:¬ ((fs F).now.length:Int)≤p.2*64:=fun h=>hs (.inr (.inr h))
          omega
        · exact h2 n hn'
    · rw [if_neg hF]
      have e2:(surv keep i p fs F).last=(fs F).last:=by
        unfold surv
        split
        · rfl
        · dsimp only
          rw [if_neg fun h=>hF h.symm]
      rw [e2] at h4
      exact ⟨ns,h1,h2,h3,h4⟩
theorem crash_mix {d:DsS} (hd:d.down=false) (keep:List Int) (hq:∀ p∈d.queue,0≤p.2) (F:Int) :
    ∃ ns:List Nat,ns.Sublist (secsOf F d.queue)∧(∀ n∈ns,n*64<(d.files F).now.length)∧(crashS d keep).files F=⟨mixF (d.files F).now ns (d.files F).last,mixF (d.files F).now ns (d.files F).last⟩:=by
  obtain ⟨ns,h1,h2,_,h4⟩:=survs_mix F d.queue keep 0 d.files hq
  refine ⟨ns,h1,h2,?_⟩
  unfold crashS
  rw [if_neg (by rw [hd];simp)]
  show FilD.mk (survs keep 0 d.queue d.files F).last (survs keep 0 d.queue d.files F).last=_
  rw [h4]
theorem crash_queue {d:DsS} (hd:d.down=false) (keep:List Int):(crashS d keep).queue=[]∧(crashS d keep).down=true∧(crashS d keep).armed=0∧(crashS d keep).lost=d.lost:=by
  unfold crashS
  rw [if_neg (by rw [hd];simp)]
  exact ⟨rfl,rfl,rfl,rfl⟩
end Go.Proofs.YtfccagphnfceiaaGreatDoor
end

section
namespace Go.Proofs.YtfccagphnfceiaaGreatDoor
open Go.Vc
def CelAt (N:Bs) (slot:Nat) (v:Bs):Prop :=
  (slot=0∧v=[]∧N.getD 0 0=0)∨((slot=1∨slot=2)∧v.length≤65536∧(∀ i,i<5→N[i]? = (hdrL slot v.length)[i]?)∧∀ i,i<v.length→N[offS slot+i]? = v[i]?)
theorem hdr_len (slot n:Nat):(hdrL slot n).length=5:=rfl
theorem hdrN_of {slot n:Nat} (h:n≤65536):hdrN (hdrL slot n)=n:=by
  unfold hdrN hdrL
  simp only [List.getD_cons_succ,List.getD_cons_zero,Nat.toUInt8,UInt8.toNat_ofNat']
  omega
theorem take_ext {N h:Bs} {n:Nat} (hn:h.length=n) (hg:∀ i,i<n→N[i]? = h[i]?):N.take n=h:=by
  apply List.ext_getElem?
  intro i
  rcases Nat.lt_or_ge i n with hi|hi
  · rw [List.getElem?_take_of_lt hi,hg i hi]
  · rw [List.getElem?_eq_none (by rw [List.length_take];omega),List.getElem?_eq_none (by omega)]
theorem mid_ext {N v:Bs} {a:Nat} (hg:∀ i,i<v.length→N[a+i]? = v[i]?):(N.drop a).take v.length=v:=by
  apply List.ext_getElem?
  intro i
  rcases Nat.lt_or_ge i v.length with hi|hi
  · rw [List.getElem?_take_of_lt hi,List.getElem?_drop,hg i hi]
  · rw [List.getElem?_eq_none (by rw [List.length_take];omega),List.getElem?_eq_none hi]
theorem readS_ok {d:DsS} {F a n:Int} (hd:d.down=false) (hF:0≤F∧F<16) (ha:0≤a) (hn:0≤n):readS d F a n=(((d.files F).now.drop a.toNat).take n.toNat,0):=by
  have hm:mayS d F=0:=by unfold mayS;rw [if_neg (by rw [hd];simp),if_neg (by omega)]
  unfold readS
  rw [if_neg (by rw [hm];simp),if_neg (by omega)]
theorem openC_at {d:DsS} {F:Int} {slot:Nat} {v:Bs} (hd:d.down=false) (hF:0≤F∧F<16) (h:CelAt (d.files F).now slot v):openC d F=(some ⟨F,slot,v,false⟩,0):=by
  have hr:=readS_ok (d:=d) (F:=F) (a:=0) (n:=5) hd hF (by omega) (by omega)
  have hr:readS d F 0 5=((d.files F).now.take 5,0):=hr
  obtain ⟨N,hN⟩:∃ N,(d.files F).now=N:=⟨_,rfl⟩
  rw [hN] at h hr
  unfold openC
  rw [hr]
  simp only
  rw [if_neg (by simp)]
  rcases h with ⟨rfl,rfl,h0⟩|⟨hs,hv,hh,hval⟩
  · have h1:(N.take 5).getD 0 0=0:=by
      cases N with
      | nil=>rfl
      | cons x r=>exact h0
    rw [if_pos (.inr h1)]
  · have ht:N.take 5=hdrL slot v.length:=take_ext (hdr_len _ _) hh
    have hsn:(slot.toUInt8).toNat=slot:=by rcases hs with rfl|rfl<;>rfl
    have h0:(hdrL slot v.length).getD 0 0=slot.toUInt8:=rfl
    have hs8:slot.toUInt8=1∨slot.toUInt8=2:=by rcases hs with rfl|rfl<;>decide
    have hs80:slot.toUInt8≠0:=by rcases hs with rfl|rfl<;>decide
    rw [ht,h0,hsn,hdrN_of hv]
    have hoff:(0:Int)≤(offS slot:Int):=by omega
    rw [readS_ok hd hF hoff (by omega),hN]
    simp only [Int.toNat_natCast]
    rw [mid_ext hval]
    rw [if_neg (by
      intro h
      rcases h with h|h
      · have:=congrArg List.length h
        rw [hdr_len] at this
        cases this
      · exact hs80 h),if_neg (by
      intro h
      rcases h with h|h
      · rw [hdr_len] at h;omega
      · rcases hs8 with h8|h8
        · exact h.1 h8
        · exact h.2 h8),if_neg (by omega),if_neg (by simp),if_neg (by omega)]
def Fut (f:FilD) (P:Nat→Bs→Prop):Prop:=(∃ s v,CelAt f.now s v∧P s v)∧∀ ns:List Nat,(∀ n∈ns,n*64<f.now.length)→∃ s v,CelAt (mixF f.now ns f.last) s v∧P s v
theorem mix_cel {N L:Bs} {s:Nat} {v:Bs} (hN:CelAt N s v) (hL:CelAt L s v) {ns:List Nat} (hs:∀ n∈ns,n*64<N.length):CelAt (mixF N ns L) s v:=by
  rcases hL with ⟨rfl,rfl,h0⟩|⟨h1,h2,h3,h4⟩
  · rcases hN with ⟨_,_,n0⟩|⟨h,_⟩
    · exact .inl ⟨rfl,rfl,mix_zero n0 ns L hs h0⟩
    · omega
  · rcases hN with ⟨rfl,_⟩|⟨_,_,n3,n4⟩
    · omega
    · refine .inr ⟨h1,h2,fun i hi=>?_,fun i hi=>?_⟩
      · have e:(hdrL s v.length)[i]? = some ((hdrL s v.length)[i]'(by rw [hdr_len];exact hi)):=List.getElem?_eq_getElem _
        rw [e]
        exact mix_agree (by rw [n3 i hi,e]) ns L hs (by rw [h3 i hi,e])
      · have e:v[i]? = some v[i]:=List.getElem?_eq_getElem hi
        rw [e]
        exact mix_agree (by rw [n4 i hi,e]) ns L hs (by rw [h4 i hi,e])
theorem fut_same {f:FilD} {s:Nat} {v:Bs} {P:Nat→Bs→Prop} (hN:CelAt f.now s v) (hL:CelAt f.last s v) (hP:P s v):Fut f P:=⟨⟨s,v,hN,hP⟩,fun ns hs=>⟨s,v,mix_cel hN hL hs,hP⟩⟩
theorem mix_out_zero {N:Bs}:∀ (ns:List Nat) (L:Bs),(∀ n∈ns,n*64<N.length∧n≠0)→L.getD 0 0=0→(mixF N ns L).getD 0 0=0
  | [],L,_,h=>h
  | n :: ns,L,hs,h=>by
    refine mix_out_zero ns _ (fun m hm=>hs m (by simp [hm])) ?_
    have h1:=hs n (by simp)
    rw [List.getD_eq_getElem?_getD,put_sec h1.1,if_neg (by omega)]
    split
    · rfl
    · rw [←List.getD_eq_getElem?_getD];exact h
theorem fut_header {f:FilD} {s s':Nat} {v v':Bs} {P:Nat→Bs→Prop} (hs':s'=1∨s'=2) (hv':v'.length≤65536) (hL:CelAt f.last s v) (hnew:∀ i,i<v'.length→f.last[offS s'+i]? = v'[i]?)
    (hnow:f.now=putL f.last 0 (hdrL s' v'.length)) (hP:P s v) (hP':P s' v'):Fut f P:=by
  have hne:hdrL s' v'.length≠[]:=by intro e;have:=congrArg List.length e;cases this
  have hlow:∀ i,i<5→f.now[i]? = (hdrL s' v'.length)[i]? := fun i hi=>by
    rw [hnow,putL_mid hne (Nat.zero_le _) (by rw [hdr_len];omega),Nat.sub_zero]
  have hhigh:∀ i,5≤i→f.now[i]? = f.last[i]? := fun i hi=>by
    rw [hnow,putL_high hne (by rw [hdr_len];omega)]
  have hoff:∀ k,(k=1∨k=2)→5≤offS k:=fun k hk=>by rcases hk with rfl|rfl<;>decide
  have hN:CelAt f.now s' v':=.inr ⟨hs',hv',hlow,fun i hi=>by
    have:=hoff s' hs'
    rw [hhigh _ (by omega)]
    exact hnew i hi⟩
  refine ⟨⟨s',v',hN,hP'⟩,fun ns hns=>?_⟩
  by_cases h0:0∈ns
  · refine ⟨s',v',.inr ⟨hs',hv',fun i hi=>?_,fun i hi=>?_⟩,hP'⟩
    · have e:(hdrL s' v'.length)[i]? = some ((hdrL s' v'.length)[i]'(by rw [hdr_len];exact hi)):=List.getElem?_eq_getElem _
      rw [e]
      exact mix_new (by rw [hlow i hi,e]) ns _ hns (by rw [show i / 64=0 by omega];exact h0)
    · have:=hoff s' hs'
      have e:v'[i]? = some v'[i]:=List.getElem?_eq_getElem hi
      rw [e]
      exact mix_agree (by rw [hhigh _ (by omega),hnew i hi,e]) ns _ hns (by rw [hnew i hi,e])
  · have hns1:∀ n∈ns,n*64<f.now.length∧n≠0:=fun n hn=>⟨hns n hn,fun e=>h0 (e ▸ hn)⟩
    rcases hL with ⟨rfl,rfl,hz⟩|⟨h1,h2,h3,h4⟩
    · exact ⟨0,[],.inl ⟨rfl,rfl,mix_out_zero ns _ hns1 hz⟩,hP⟩
    · refine ⟨s,v,.inr ⟨h1,h2,fun i hi=>?_,fun i hi=>?_⟩,hP⟩
      · have e:(hdrL s v.length)[i]? = some ((hdrL s v.length)[i]'(by rw [hdr_len];exact hi)):=List.getElem?_eq_getElem _
        rw [e]
        exact mix_out ns _ (fun n hn=>⟨(hns1 n hn).1,by have:=(hns1 n hn).2;omega⟩) (by rw [h3 i hi,e])
      · have:=hoff s h1
        have e:v[i]? = some v[i]:=List.getElem?_eq_getElem hi
        rw [e]
        exact mix_agree (by rw [hhigh _ (by omega),h4 i hi,e]) ns _ hns (by rw [h4 i hi,e])
theorem Fut.mono {f:FilD} {P Q:Nat→Bs→Prop} (h:Fut f P) (hPQ:∀ s v,P s v→Q s v):Fut f Q :=
  ⟨by obtain ⟨s,v,h1,h2⟩:=h.1;exact ⟨s,v,h1,hPQ s v h2⟩,fun ns hs=>by obtain ⟨s,v,h1,h2⟩:=h.2 ns hs;exact ⟨s,v,h1,hPQ s v h2⟩⟩
theorem Fut.crash {f:FilD} {P:Nat→Bs→Prop} (h:Fut f P) {ns:List Nat} (hs:∀ n∈ns,n*64<f.now.length):Fut ⟨mixF f.now ns f.last,mixF f.now ns f.last⟩ P:=by
  obtain ⟨s,v,h1,h2⟩:=h.2 ns hs
  exact fut_same h1 h1 h2
theorem Fut.settle {f:FilD} {P:Nat→Bs→Prop} (h:Fut f P):Fut ⟨f.now,f.now⟩ P:=by
  obtain ⟨s,v,h1,h2⟩:=h.1
  exact fut_same h1 h1 h2
end Go.Proofs.YtfccagphnfceiaaGreatDoor
end

section
namespace Go.Proofs.YtfccagphnfceiaaGreatDoor
open Go.Vc
inductive Ev:FilD→FilD→Prop
  | refl (f:FilD):Ev f f
  | step {f g:FilD} {ns:List Nat}:Ev f g→(∀ n∈ns,n*64<g.now.length)→Ev f ⟨mixF g.now ns g.last,mixF g.now ns g.last⟩
theorem Ev.trans {f g h:FilD} (h1:Ev f g) (h2:Ev g h):Ev f h:=by
  induction h2 with
  | refl=>exact h1
  | step _ hs ih=>exact .step ih hs
theorem Ev.fut {f g:FilD} {P:Nat→Bs→Prop} (h:Ev f g) (hP:Fut f P):Fut g P:=by
  induction h with
  | refl=>exact hP
  | step _ hs ih=>exact ih.crash hs
def Pre (B:Bs) (f:FilD):Prop:=∀ (i:Nat) (x:UInt8),B[i]? = some x→f.now[i]? = some x∧f.last[i]? = some x
theorem Ev.pre {B:Bs} {f g:FilD} (h:Ev f g) (hP:Pre B f):Pre B g:=by
  induction h with
  | refl=>exact hP
  | step _ hs ih =>
    intro i x hx
    obtain ⟨h1,h2⟩:=ih i x hx
    exact ⟨mix_agree h1 _ _ hs h2,mix_agree h1 _ _ hs h2⟩
def DsW (d:DsS):Prop:=∀ p∈d.queue,0≤p.2
def DsH (d:DsS):Prop:=d.down=false∧d.armed=0∧d.lost=0
theorem dsNew_w:DsW dsNew:=fun p hp=>by cases hp
theorem dsNew_h:DsH dsNew:=⟨rfl,rfl,rfl⟩
theorem crash_w {d:DsS} (hw:DsW d) (keep:List Int):DsW (crashS d keep):=by
  unfold crashS
  split
  · exact hw
  · exact fun p hp=>by cases hp
theorem crash_ev {d:DsS} (hw:DsW d) (keep:List Int) (F:Int):Ev (d.files F) ((crashS d keep).files F):=by
  cases hd:d.down with
  | true =>
    have:crashS d keep=d:=by unfold crashS;rw [if_pos hd]
    rw [this]
    exact .refl _
  | false =>
    obtain ⟨ns,_,h2,h3⟩:=crash_mix hd keep hw F
    rw [h3]
    exact .step (.refl _) h2
theorem tick_eq (d:DsS):(tickS d).files=d.files∧(tickS d).queue=d.queue∧(tickS d).down=d.down∧(tickS d).lost=d.lost∧(tickS d).keep=d.keep:=by
  unfold tickS
  split<;>exact ⟨rfl,rfl,rfl,rfl,rfl⟩
theorem tick_h {d:DsS} (h:DsH d):tickS d=d∧endsB d=false:=by
  unfold tickS endsB
  rw [if_pos (.inr h.2.1),h.2.1,h.1]
  exact ⟨rfl,rfl⟩
theorem addQ_w (f:Int):∀ (ns:List Int) (q:List (Int × Int)),(∀ n∈ns,0≤n)→(∀ p∈q,0≤p.2)→∀ p∈addQ f ns q,0≤p.2
  | [],q,_,hq=>hq
  | n :: ns,q,hn,hq=>by
    refine addQ_w f ns _ (fun m hm=>hn m (by simp [hm])) fun p hp=>?_
    split at hp
    · exact hq p hp
    · rcases List.mem_append.1 hp with hp|hp
      · exact hq p hp
      · rw [List.mem_singleton.1 hp];exact hn n (by simp)
theorem secs_pos (a n:Nat):∀ m∈secsL a n,0≤m:=fun m hm=>by
  unfold secsL at hm
  obtain ⟨i,_,rfl⟩:=List.mem_map.1 hm
  omega
theorem write0_out {d:DsS} {F a:Int} {s:Bs} (hF:0≤F∧F<16) (ha:0≤a) (hs:a+s.length≤16777216) (hw:DsW d) :
    DsW (write0 d F a s).1∧(∀ G,G≠F→(write0 d F a s).1.files G=d.files G)∧(write0 d F a s).1.down=d.down∧(write0 d F a s).1.armed=d.armed∧(write0 d F a s).1.lost=d.lost ∧
    ((d.down=false∧(write0 d F a s).2=0∧(write0 d F a s).1.files F=⟨putL (d.files F).now a.toNat s,(d.files F).last⟩)∨(d.down=true∧(write0 d F a s).2=9∧(write0 d F a s).1=d)):=by
  cases hd:d.down with
  | true =>
    have hm:mayS d F=9:=by unfold mayS;rw [if_pos hd]
    have e:write0 d F a s=(d,9):=by unfold write0;rw [hm,if_pos (by decide)]
    rw [e]
    exact ⟨hw,fun _ _=>rfl,hd,rfl,rfl,.inr ⟨rfl,rfl,rfl⟩⟩
  | false =>
    have hm:mayS d F=0:=by unfold mayS;rw [if_neg (by rw [hd];simp),if_neg (by omega)]
    by_cases h0:s=[]
    · have e:write0 d F a s=(d,0):=by unfold write0;rw [hm,if_neg (by decide),if_neg (by omega),if_neg (by omega),if_pos h0]
      rw [e,h0,putL_nil]
      exact ⟨hw,fun _ _=>rfl,hd,rfl,rfl,.inl ⟨rfl,rfl,rfl⟩⟩
    · have e:write0 d F a s=({ d.set F ⟨putL (d.files F).now a.toNat s,(d.files F).last⟩ with queue:=addQ F (secsL a.toNat s.length) d.queue },0):=by
        unfold write0;rw [hm,if_neg (by decide),if_neg (by omega),if_neg (by omega),if_neg h0]
      rw [e]
      refine ⟨addQ_w F _ _ (secs_pos _ _) hw,fun G hG=>?_,hd,rfl,rfl,.inl ⟨rfl,rfl,?_⟩⟩
      · show (if G=F then _ else d.files G)=_
        rw [if_neg hG]
      · show (if F=F then _ else d.files F)=_
        rw [if_pos rfl]
theorem write_out {d:DsS} {F a:Int} {s:Bs} (hF:0≤F∧F<16) (ha:0≤a) (hs:a+s.length≤16777216) (hw:DsW d) :
    DsW (writeS d F a s).1∧(∀ G,G≠F→Ev (d.files G) ((writeS d F a s).1.files G))∧(DsH d→DsH (writeS d F a s).1∧(writeS d F a s).2=0)∧((writeS d F a s).1.lost=d.lost) ∧
    (((writeS d F a s).2=0∧(writeS d F a s).1.files F=⟨putL (d.files F).now a.toNat s,(d.files F).last⟩)∨((writeS d F a s).2=9∧(Ev (d.files F) ((writeS d F a s).1.files F)∨Ev ⟨putL (d.files F).now a.toNat s,(d.files F).last⟩ ((writeS d F a s).1.files F)))):=by
  obtain ⟨t1,t2,t3,t4,t5⟩:=tick_eq d
  have hwt:DsW (tickS d):=by unfold DsW;rw [t2];exact hw
  obtain ⟨w1,w2,w3,w4,w5,w6⟩:=write0_out (d:=tickS d) (s:=s) hF ha hs hwt
  rw [t1] at w2 w6
  rw [t3] at w3 w6
  rw [t4] at w5
  cases he:endsB d with
  | true =>
    have e:writeS d F a s=(crashS (write0 (tickS d) F a s).1 d.keep,9):=by unfold writeS;rw [if_pos he]
    have hd:d.down=false:=by
      unfold endsB at he
      cases h:d.down with
      | true=>rw [h] at he;cases he
      | false=>rfl
    rw [e]
    refine ⟨crash_w w1 _,fun G hG=>?_,fun h=>?_,?_,.inr ⟨rfl,.inr ?_⟩⟩
    · rw [←w2 G hG];exact crash_ev w1 _ G
    · rw [(tick_h h).2] at he;cases he
    · rw [←w5]
      exact (crash_queue (by rw [w3];exact hd) _).2.2.2
    · rcases w6 with ⟨_,_,w7⟩|⟨h,_⟩
      · rw [←w7];exact crash_ev w1 _ F
      · rw [hd] at h;cases h
  | false =>
    have e:writeS d F a s=write0 (tickS d) F a s:=by unfold writeS;rw [if_neg (by rw [he];simp)]
    rw [e]
    refine ⟨w1,fun G hG=>by rw [w2 G hG];exact .refl _,fun h=>?_,w5,?_⟩
    · rcases w6 with ⟨_,w7,_⟩|⟨h2,_⟩
      · have ht:=(tick_h h).1
        rw [ht] at w3 w4 w5 w7 ⊢
        exact ⟨⟨by rw [w3];exact h.1,by rw [w4];exact h.2.1,by rw [w5];exact h.2.2⟩,w7⟩
      · rw [h.1] at h2;cases h2
    · rcases w6 with ⟨_,w7,w8⟩|⟨_,w7,w8⟩
      · exact .inl ⟨w7,w8⟩
      · refine .inr ⟨w7,.inl ?_⟩
        rw [w8,t1]
        exact .refl _
theorem fall_out {d:DsS} (hw:DsW d):DsW (fallS d)∧(∀ G,Ev (d.files G) ((fallS d).files G))∧(DsH d→fallS d=d)∧(fallS d).lost=d.lost∧((fallS d).down=false→(fallS d).files=d.files):=by
  obtain ⟨t1,t2,t3,t4,t5⟩:=tick_eq d
  have hwt:DsW (tickS d):=by unfold DsW;rw [t2];exact hw
  unfold fallS
  cases he:endsB d with
  | true =>
    rw [if_pos rfl]
    have hd:d.down=false:=by
      unfold endsB at he
      cases h:d.down with
      | true=>rw [h] at he;cases he
      | false=>rfl
    have hq:=crash_queue (d:=tickS d) (by rw [t3];exact hd) d.keep
    refine ⟨crash_w hwt _,fun G=>by rw [←t1];exact crash_ev hwt _ G,fun h=>?_,by rw [hq.2.2.2,t4],fun h=>?_⟩
    · rw [(tick_h h).2] at he;cases he
    · rw [hq.2.1] at h;cases h
  | false =>
    rw [if_neg (by simp)]
    exact ⟨hwt,fun G=>by rw [t1];exact .refl _,fun h=>(tick_h h).1,t4,fun _=>t1⟩
theorem sync_out {d:DsS} {F:Int} (hF:0≤F∧F<16) (hw:DsW d) :
    DsW (syncS d F).1∧(∀ G,G≠F→Ev (d.files G) ((syncS d F).1.files G))∧(DsH d→DsH (syncS d F).1∧(syncS d F).2=0) ∧
    (((syncS d F).2=0∧(syncS d F).1.down=false∧(syncS d F).1.files F=⟨(d.files F).now,(d.files F).now⟩)∨(((syncS d F).2=9∨(syncS d F).2=10)∧Ev (d.files F) ((syncS d F).1.files F))):=by
  obtain ⟨f1,f2,f3,f4,f5⟩:=fall_out hw
  unfold syncS sync0
  cases hd:(fallS d).down with
  | true =>
    have hm:mayS (fallS d) F=9:=by unfold mayS;rw [if_pos hd]
    rw [hm,if_pos (by decide)]
    refine ⟨f1,fun G _=>f2 G,fun h=>?_,.inr ⟨.inl rfl,f2 F⟩⟩
    rw [f3 h,h.1] at hd;cases hd
  | false =>
    have hm:mayS (fallS d) F=0:=by unfold mayS;rw [if_neg (by rw [hd];simp),if_neg (by omega)]
    rw [hm,if_neg (by decide)]
    by_cases hl:0<(fallS d).lost
    · rw [if_pos hl]
      refine ⟨f1,fun G _=>f2 G,fun h=>?_,.inr ⟨.inr rfl,f2 F⟩⟩
      rw [f4,h.2.2] at hl;omega
    · rw [if_neg hl]
      refine ⟨fun p hp=>f1 p (List.mem_filter.1 hp).1,fun G hG=>?_,fun h=>?_,.inl ⟨rfl,hd,?_⟩⟩
      · show Ev (d.files G) (if G=F then _ else (fallS d).files G)
        rw [if_neg hG];exact f2 G
      · rw [f3 h]
        exact ⟨h,rfl⟩
      · show (if F=F then _ else (fallS d).files F)=_
        rw [if_pos rfl,f5 hd]
theorem put_cel {N:Bs} {s s':Nat} {v v':Bs} (hv':v'.length≤65536) (h:CelAt N s v) (hs':s'=if s=1 then 2 else 1):CelAt (putL N (offS s') v') s v∧∀ i,i<v'.length→(putL N (offS s') v')[offS s'+i]? = v'[i]? := by
  by_cases h0:v'=[]
  · rw [h0,putL_nil]
    exact ⟨h,fun i hi=>by cases hi⟩
  refine ⟨?_,fun i hi=>?_⟩
  · rcases h with ⟨rfl,rfl,hz⟩|⟨h1,h2,h3,h4⟩
    · refine .inl ⟨rfl,rfl,?_⟩
      rw [if_neg (by decide)] at hs'
      subst hs'
      rw [List.getD_eq_getElem?_getD,putL_low h0 (by decide)]
      split
      · rw [←List.getD_eq_getElem?_getD];exact hz
      · rfl
    · have hne:∀ i,i<5∨(offS s≤i∧i<offS s+v.length)→N[i]? ≠ none→(putL N (offS s') v')[i]? = N[i]? := by
        intro i hi hx
        have hl:i<N.length:=by
          rcases Nat.lt_or_ge i N.length with h|h
          · exact h
          · exact absurd (List.getElem?_eq_none h) hx
        rcases h1 with rfl|rfl
        · rw [if_pos rfl] at hs'
          subst hs'
          rw [putL_low h0 (by
            have e1:offS 1=64:=rfl
            have e2:offS 2=131072:=rfl
            omega),if_pos hl]
        · rw [if_neg (by decide)] at hs'
          subst hs'
          have e1:offS 1=64:=rfl
          have e2:offS 2=131072:=rfl
          rcases Nat.lt_or_ge i 64 with h64|h64
          · rw [putL_low h0 (by omega),if_pos hl]
          · rw [putL_high h0 (by omega)]
      refine .inr ⟨h1,h2,fun i hi=>?_,fun i hi=>?_⟩
      · have e:=h3 i hi
        rw [hne i (.inl hi) (by rw [e,List.getElem?_eq_getElem (by rw [hdr_len];exact hi)];simp)]
        exact e
      · have e:=h4 i hi
        rw [hne _ (.inr ⟨by omega,by omega⟩) (by rw [e,List.getElem?_eq_getElem hi];simp)]
        exact e
  · rw [putL_mid h0 (by omega) (by omega),Nat.add_sub_cancel_left]
def OneOf (k:Nat) (v:Bs) (k':Nat) (v':Bs):Nat→Bs→Prop:=fun s w=>(s=k∧w=v)∨(s=k'∧w=v')
structure SetR (d:DsS) (c:CelS) (s:Bs) (slot':Nat) (r:DsS × CelS × Int):Prop where
  w:DsW r.1
  other:∀ G,G≠c.file→Ev (d.files G) (r.1.files G)
  fine:DsH d→DsH r.1∧r.2.2=0
  file:r.2.1.file=c.file
  ok:r.2.2=0→r.2.1.slot=slot'∧r.2.1.value=s∧∃ X,r.1.files c.file=⟨X,X⟩∧CelAt X slot' s
  bad:r.2.2≠0→(r.2.2=9∨r.2.2=10)∧Fut (r.1.files c.file) (OneOf c.slot c.value slot' s)
theorem setC2_out {d:DsS} {c:CelS} {s:Bs} {slot':Nat} (hF:0≤c.file∧c.file<16) (hw:DsW d) (hs:s.length≤65536) (hslot:slot'=if c.slot=1 then 2 else 1)
    (hN:CelAt (d.files c.file).now c.slot c.value) (hL:CelAt (d.files c.file).last c.slot c.value):SetR d c s slot' (setC2 d c s slot'):=by
  have hs12:slot'=1∨slot'=2:=by rw [hslot];split<;>simp
  have hoff:0≤(offS slot':Int)∧(offS slot':Int)+s.length≤16777216:=by rcases hs12 with rfl|rfl<;>exact ⟨by decide,by show (_:Int)+_≤_;have e1:offS 1=64:=rfl;have e2:offS 2=131072:=rfl;omega⟩
  obtain ⟨p1,p2⟩:=put_cel hs hN hslot
  have hA:=write_out (d:=d) (F:=c.file) (a:=(offS slot':Int)) (s:=s) hF hoff.1 hoff.2 hw
  unfold setC2
  obtain ⟨⟨d1,e1⟩,h1⟩:∃ x,writeS d c.file (offS slot') s=x:=⟨_,rfl⟩
  rw [h1] at hA ⊢
  simp only at hA ⊢
  rw [Int.toNat_natCast] at hA
  obtain ⟨a1,a2,a3,_,a5⟩:=hA
  by_cases he1:e1≠0
  · rw [if_pos he1]
    refine ⟨a1,a2,fun h=>absurd (a3 h).2 he1,rfl,fun h=>absurd h he1,fun _=>?_⟩
    rcases a5 with ⟨h,_⟩|⟨h,h2⟩
    · exact absurd h he1
    · refine ⟨.inl h,?_⟩
      rcases h2 with h2|h2
      · exact h2.fut (fut_same hN hL (.inl ⟨rfl,rfl⟩))
      · exact h2.fut (fut_same p1 hL (.inl ⟨rfl,rfl⟩))
  rw [if_neg he1]
  have he1:e1=0:=Decidable.not_not.1 he1
  have b5:d1.files c.file=⟨putL (d.files c.file).now (offS slot') s,(d.files c.file).last⟩:=by
    rcases a5 with ⟨_,h⟩|⟨h,_⟩
    · exact h
    · rw [he1] at h;cases h
  have hB:=sync_out (d:=d1) (F:=c.file) hF a1
  obtain ⟨⟨d2,e2⟩,h2⟩:∃ x,syncS d1 c.file=x:=⟨_,rfl⟩
  rw [h2] at hB ⊢
  simp only at hB ⊢
  rw [b5] at hB
  obtain ⟨c1,c2,c3,c4⟩:=hB
  by_cases he2:e2≠0
  · rw [if_pos he2]
    refine ⟨c1,fun G hG=>(a2 G hG).trans (c2 G hG),fun h=>absurd (c3 (a3 h).1).2 he2,rfl,fun h=>absurd h he2,fun _=>?_⟩
    rcases c4 with ⟨h,_⟩|⟨h,h2⟩
    · exact absurd h he2
    · exact ⟨h,h2.fut (fut_same p1 hL (.inl ⟨rfl,rfl⟩))⟩
  rw [if_neg he2]
  have he2:e2=0:=Decidable.not_not.1 he2
  have b6:d2.files c.file=⟨putL (d.files c.file).now (offS slot') s,putL (d.files c.file).now (offS slot') s⟩:=by
    rcases c4 with ⟨_,_,h⟩|⟨h,_⟩
    · exact h
    · rw [he2] at h;omega
  obtain ⟨X,hX⟩:∃ X,putL (d.files c.file).now (offS slot') s=X:=⟨_,rfl⟩
  rw [hX] at p1 p2 b6
  have hC:=write_out (d:=d2) (F:=c.file) (a:=0) (s:=hdrL slot' s.length) hF (Int.le_refl 0) (by rw [hdr_len];decide) c1
  obtain ⟨⟨d3,e3⟩,h3⟩:∃ x,writeS d2 c.file 0 (hdrL slot' s.length)=x:=⟨_,rfl⟩
  rw [h3] at hC ⊢
  simp only at hC ⊢
  rw [b6] at hC
  obtain ⟨g1,g2,g3,_,g5⟩:=hC
  have hfut:Fut ⟨putL X 0 (hdrL slot' s.length),X⟩ (OneOf c.slot c.value slot' s):=fut_header hs12 hs p1 p2 rfl (.inl ⟨rfl,rfl⟩) (.inr ⟨rfl,rfl⟩)
  by_cases he3:e3≠0
  · rw [if_pos he3]
    refine ⟨g1,fun G hG=>((a2 G hG).trans (c2 G hG)).trans (g2 G hG),fun h=>absurd (g3 (c3 (a3 h).1).1).2 he3,rfl,fun h=>absurd h he3,fun _=>?_⟩
    rcases g5 with ⟨h,_⟩|⟨h,h2⟩
    · exact absurd h he3
    · refine ⟨.inl h,?_⟩
      rcases h2 with h2|h2
      · exact h2.fut (fut_same p1 p1 (.inl ⟨rfl,rfl⟩))
      · exact h2.fut hfut
  rw [if_neg he3]
  have he3:e3=0:=Decidable.not_not.1 he3
  have b7:d3.files c.file=⟨putL X 0 (hdrL slot' s.length),X⟩:=by
    rcases g5 with ⟨_,h⟩|⟨h,_⟩
    · exact h
    · rw [he3] at h;cases h
  have hD:=sync_out (d:=d3) (F:=c.file) hF g1
  obtain ⟨⟨d4,e4⟩,h4⟩:∃ x,syncS d3 c.file=x:=⟨_,rfl⟩
  rw [h4] at hD ⊢
  simp only at hD ⊢
  rw [b7] at hD
  obtain ⟨k1,k2,k3,k4⟩:=hD
  refine ⟨k1,fun G hG=>(((a2 G hG).trans (c2 G hG)).trans (g2 G hG)).trans (k2 G hG),fun h=>k3 (g3 (c3 (a3 h).1).1).1,rfl,fun h=>⟨rfl,rfl,putL X 0 (hdrL slot' s.length),?_,?_⟩,fun h=>?_⟩
  · rcases k4 with ⟨_,_,h'⟩|⟨h',_⟩
    · exact h'
    · simp only at h;rw [h] at h';omega
  · have hne:hdrL slot' s.length≠[]:=by intro e;have:=congrArg List.length e;cases this
    refine .inr ⟨hs12,hs,fun i hi=>?_,fun i hi=>?_⟩
    · rw [putL_mid hne (Nat.zero_le _) (by rw [hdr_len];omega),Nat.sub_zero]
    · have hge:5≤offS slot':=by rcases hs12 with rfl|rfl<;>decide
      rw [putL_high hne (by rw [hdr_len];omega)]
      exact p2 i hi
  · rcases k4 with ⟨h',_⟩|⟨h',h2⟩
    · exact absurd h' h
    · exact ⟨h',h2.fut hfut⟩
theorem setC_out {d:DsS} {c:CelS} {s:Bs} (hF:0≤c.file∧c.file<16) (hw:DsW d) (hs:s.length≤65536)
    (hN:CelAt (d.files c.file).now c.slot c.value) (hL:CelAt (d.files c.file).last c.slot c.value):SetR d c s (if c.slot=1 then 2 else 1) (setC d c s):=by
  obtain ⟨k,hk⟩:∃ k:Nat,k=(if c.slot=1 then 2 else 1):=⟨_,rfl⟩
  unfold setC
  rw [←hk,if_neg (by omega:¬ 65536<s.length)]
  split
  · obtain ⟨a1,a2,a3,a4⟩:=sync_out (d:=d) (F:=c.file) hF hw
    obtain ⟨⟨d1,e1⟩,h1⟩:∃ x,syncS d c.file=x:=⟨_,rfl⟩
    rw [h1] at a1 a2 a3 a4 ⊢
    simp only at a1 a2 a3 a4 ⊢
    by_cases he:e1≠0
    · rw [if_pos he]
      refine ⟨a1,a2,fun h=>absurd (a3 h).2 he,rfl,fun h=>absurd h he,fun _=>?_⟩
      rcases a4 with ⟨h,_⟩|⟨h,h2⟩
      · exact absurd h he
      · exact ⟨h,h2.fut (fut_same hN hL (.inl ⟨rfl,rfl⟩))⟩
    · rw [if_neg he]
      have he:e1=0:=Decidable.not_not.1 he
      have b:d1.files c.file=⟨(d.files c.file).now,(d.files c.file).now⟩:=by
        rcases a4 with ⟨_,_,h⟩|⟨h,_⟩
        · exact h
        · rw [he] at h;omega
      have h:=setC2_out (d:=d1) (c:={ c with sure:=true }) (s:=s) (slot':=k) hF a1 hs hk (by show CelAt (d1.files c.file).now c.slot c.value;rw [b];exact hN) (by show CelAt (d1.files c.file).last c.slot c.value;rw [b];exact hN)
      exact ⟨h.w,fun G hG=>(a2 G hG).trans (h.other G hG),fun hh=>h.fine (a3 hh).1,h.file,h.ok,h.bad⟩
  · exact setC2_out hF hw hs hk hN hL
end Go.Proofs.YtfccagphnfceiaaGreatDoor
end

section
namespace Go.Proofs.YtfccagphnfceiaaGreatDoor
open Go.Vc
structure StC where
  last:Int
  phase:Int
  check:ByteArray
  batch:Int
  mark:Int
  next:ByteArray
  lines:List LineD
abbrev stI (last:Int) (check:ByteArray):StC:=⟨last,0,check,0,0,.empty,[]⟩
abbrev stC0:StC:=stI 0 .empty
def lineC (x:LineD):ByteArray:=lineS { x with batch:=x.no }
def linesC (l:List LineD):Bs:=l.flatMap fun x=>(lineC x).data.toList
def headC (x:StC):Bs:=(intB x.last).data.toList++((intB x.phase).data.toList++(textB x.check).data.toList)
def restC (x:StC):Bs:=(intB x.batch).data.toList++((intB x.mark).data.toList++((textB x.next).data.toList++((natB (x.lines.length:Int)).data.toList++linesC x.lines)))
def formC (x:StC):Bs:=if x.phase=0 then headC x else headC x++restC x
def loopC (b:Int):Nat→RdS→List LineD→Option (List LineD × RdS)
  | 0,st,acc=>some (acc,st)
  | k+1,st,acc=>if st.1=[] then some (acc,st) else (lineR (rdInt st).1 b (rdInt st).2).bind fun y=>if rightR y.1.row=true then loopC b k y.2 (acc++[y.1]) else none
def fineC (x:StC) (st:RdS):Bool:=rdDone st&&(decide (0≤x.last)&&(decide (0≤x.phase)&&(decide (x.phase≤2)&&(decide (x.phase=0)||decide (x.last<x.batch)))))
def endC (s:Bs) (x:StC) (st:RdS):Option StC:=if (fineC x st&&decide (formC x=s))=true then some x else none
def readC2 (s:Bs) (last phase:Int) (check:ByteArray) (st:RdS):Option StC :=
  let e:=rdInt st
  let f:=rdInt e.2
  let g:=stepT f.2
  let h:=rdNat g.2
  (loopC e.1 h.1.toNat h.2 []).bind fun y=>endC s ⟨last,phase,check,e.1,f.1,g.1,y.1⟩ y.2
def readC (s:Bs):Option StC :=
  let a:=rdInt (s,false)
  let b:=rdInt a.2
  let c:=stepT b.2
  if b.1=0 then endC s ⟨a.1,b.1,c.1,0,0,.empty,[]⟩ c.2 else readC2 s a.1 b.1 c.1 c.2
structure StW (x:StC):Prop where
  last:0≤x.last∧I64 x.last
  phase:x.phase=0∨x.phase=1∨x.phase=2
  check:x.check.size≤600
  idle:x.phase=0→x.batch=0∧x.mark=0∧x.next=.empty∧x.lines=[]
  batch:x.phase≠0→x.last<x.batch
  ints:I64 x.batch∧I64 x.mark
  next:x.next.size≤600
  line:∀ y∈x.lines,LineW y∧y.batch=x.batch∧rightR y.row=true
  few:x.lines.length≤18
theorem lineC_w {x:LineD} (h:LineW x):LineW { x with batch:=x.no }:=⟨⟨h.inn.no,h.inn.no,h.inn.time,h.inn.n,h.inn.cause,h.inn.why⟩,h.val,h.row⟩
theorem linesC_len {l:List LineD} (h:∀ x∈l,LineW x):(linesC l).length≤l.length*3330:=by
  have e:linesC l=linesL (l.map fun x=>{ x with batch:=x.no }):=by
    unfold linesC linesL
    rw [List.flatMap_map];rfl
  rw [e]
  have:=linesL_len (l:=l.map fun x=>{ x with batch:=x.no }) fun y hy=>by
    obtain ⟨x,hx,rfl⟩:=List.mem_map.1 hy
    exact lineC_w (h x hx)
  rw [List.length_map] at this
  exact this
theorem form_len {x:StC} (h:StW x):(formC x).length≤65536:=by
  have h1:=intB_size h.last.2
  have h2:(intB x.phase).size≤21:=(intB_size (n:=x.phase) (by have:=h.phase;unfold I64;omega)).2
  have h3:=textB_size (s:=x.check) (by have:=h.check;omega)
  have h4:=intB_size h.ints.1
  have h5:=intB_size h.ints.2
  have h6:=textB_size (s:=x.next) (by have:=h.next;omega)
  have h7:=h.few
  have h8:=natB_size (n:=(x.lines.length:Int)) (by unfold I64;omega)
  have h9:=linesC_len (l:=x.lines) fun y hy=>(h.line y hy).1
  have h10:=h.check
  have h11:=h.next
  unfold formC
  split
  · unfold headC
    rw [List.length_append,List.length_append,list_size,list_size,list_size];omega
  · unfold headC restC
    simp only [List.length_append,list_size];omega
theorem lineR_as {nx no nx' no':Int} {st st':RdS} {x:LineD} (h:lineR nx no st=some (x,st')):lineR nx' no' st=some ({ x with no:=nx',batch:=no' },st'):=by
  obtain ⟨r,hr,he⟩:=lineR_inv h
  rw [lineR_some hr]
  unfold rdL at he ⊢
  injection he with e1 e2
  subst e1 e2
  rfl
theorem lineC_read {x:LineD} {b:Int} {t:Bs} (h:LineW x) (hb:x.batch=b):∃ u,rdInt ((lineC x).data.toList++t,false)=(x.no,u)∧lineR x.no b u=some (x,(t,false)):=by
  have h1:=line_read (n:=x.no) (t:=t) (lineC_w h)
  have h2:(rdInt ((lineC x).data.toList++t,false)).1=x.no:=by
    unfold lineC
    rw [lineS_list,int_read h.inn.no]
  refine ⟨(rdInt ((lineC x).data.toList++t,false)).2,by rw [←h2],?_⟩
  unfold lineK at h1
  have h3:=lineR_as (nx':=x.no) (no':=b) h1
  subst hb
  exact h3
theorem loop_read {b:Int}:∀ (l acc:List LineD) (t:Bs),(∀ y∈l,LineW y∧y.batch=b∧rightR y.row=true)→loopC b l.length (linesC l++t,false) acc=some (acc++l,(t,false))
  | [],acc,t,_=>by rw [List.append_nil];rfl
  | x :: l,acc,t,h=>by
    obtain ⟨h1,h2,h3⟩:=h x (by simp)
    have e:linesC (x :: l)++t=(lineC x).data.toList++(linesC l++t):=by simp [linesC]
    obtain ⟨u,g1,g2⟩:=lineC_read (t:=linesC l++t) h1 h2
    have hne:¬ (lineC x).data.toList++(linesC l++t)=[]:=by
      intro h0
      have:=congrArg List.length h0
      have h4:=intB_size h1.inn.no
      have h5:2≤(lineC x).size:=by
        unfold lineC lineS
        simp only [size_app]
        omega
      rw [List.length_append,list_size,List.length_nil] at this
      omega
    rw [e,List.length_cons]
    unfold loopC
    rw [if_neg hne,g1]
    simp only
    rw [g2]
    simp only [Option.bind]
    rw [if_pos h3,loop_read l _ t fun y hy=>h y (by simp [hy]),List.append_assoc]
    rfl
theorem readC_form {x:StC} (h:StW x):readC (formC x)=some x:=by
  have hp64:I64 x.phase:=by have:=h.phase;unfold I64;omega
  have hc:x.check.size≤9223372036854775807:=by have:=h.check;omega
  have hn:x.next.size≤9223372036854775807:=by have:=h.next;omega
  have hf:(x.lines.length:Int)≤9223372036854775807:=by have:=h.few;omega
  unfold readC
  by_cases h0:x.phase=0
  · obtain ⟨a1,a2,a3,a4⟩:=h.idle h0
    have e:formC x=(intB x.last).data.toList++((intB x.phase).data.toList++((textB x.check).data.toList++[])):=by
      unfold formC headC
      rw [if_pos h0,List.append_nil]
    have e2:readC (formC x)=readC (formC x):=rfl
    conv=>lhs;rw [e]
    rw [int_read h.last.2]
    simp only
    rw [int_read hp64]
    simp only
    rw [text_read hc]
    simp only
    rw [if_pos h0,←e]
    have hx:(⟨x.last,x.phase,x.check,0,0,.empty,[]⟩:StC)=x:=by
      rw [←a1];cases x;simp_all
    rw [hx]
    unfold endC fineC
    rw [if_pos]
    have:=h.last
    simp [rdDone,h0]
    omega
  · have e:formC x=(intB x.last).data.toList++((intB x.phase).data.toList++((textB x.check).data.toList++((intB x.batch).data.toList++((intB x.mark).data.toList++((textB x.next).data.toList++((natB (x.lines.length:Int)).data.toList++(linesC x.lines++[]))))))):=by
      unfold formC headC restC
      rw [if_neg h0]
      simp only [List.append_assoc,List.append_nil]
    conv=>lhs;rw [e]
    rw [int_read h.last.2]
    simp only
    rw [int_read hp64]
    simp only
    rw [text_read hc]
    simp only
    rw [if_neg h0,←e]
    unfold readC2
    rw [int_read h.ints.1]
    simp only
    rw [int_read h.ints.2]
    simp only
    rw [text_read hn]
    simp only
    rw [nat_read hf]
    simp only [Int.toNat_natCast]
    rw [loop_read x.lines [] [] h.line]
    simp only [Option.bind,List.nil_append]
    unfold endC fineC
    rw [if_pos]
    have h1:=h.last
    have h2:=h.phase
    have h3:=h.batch h0
    simp [rdDone]
    omega
end Go.Proofs.YtfccagphnfceiaaGreatDoor
end

section
namespace Go.Proofs.YtfccagphnfceiaaGreatDoor
open Go.Vc
structure CoS where
  cell:CelS
  now:StC
  prep:Bool
  stop:Bool
def noteC (d:DsS) (c:CoS) (x:StC):DsS × CoS × Int :=
  let r:=setC d c.cell (formC x)
  if r.2.2=0 then (r.1,⟨r.2.1,x,false,false⟩,0) else (r.1,⟨r.2.1,c.now,c.prep,decide (r.2.2≠6)⟩,r.2.2)
def stepK (d:DsS) (c:CoS) (phase:Int) (r:StC × Int):DsS × CoS × Int :=
  if c.stop=true then (d,c,9) else if c.now.phase≠phase then (d,c,7) else if r.2≠0 then (d,c,r.2) else noteC d c r.1
def badC (batch:Int) (y:LineD):Bool:=decide (y.batch≠batch) || !rightR y.row
def beginR (c:CoS) (batch mark:Int) (lines:List LineD) (next:ByteArray):StC × Int :=
  if batch≤c.now.last then (stC0,25) else if lines.any (badC batch)=true then (stC0,1) else (⟨c.now.last,1,c.now.check,batch,mark,next,lines⟩,0)
def beginC (d:DsS) (c:CoS) (batch mark:Int) (lines:List LineD) (next:ByteArray):DsS × CoS × Int:=stepK d c 0 (beginR c batch mark lines next)
def giveC (c:CoS) (s:SkD):Int × SkD:=if s.kind=0 then prepK s c.now.batch c.now.lines else ((delivK s c.now.batch c.now.lines).1,s)
def prepareC (c:CoS) (s:SkD):CoS × SkD × Int :=
  if c.stop=true then (c,s,9) else if c.now.phase≠1 then (c,s,7) else ({ c with prep:=c.prep||decide ((giveC c s).1=0) },(giveC c s).2,(giveC c s).1)
def decideR (c:CoS):StC × Int:=if c.prep=false then (stC0,25) else ({ c.now with phase:=2 },0)
def decideC (d:DsS) (c:CoS):DsS × CoS × Int:=stepK d c 1 (decideR c)
def commitC (s:SkD) (b:Int) (L:List LineD):Int × SkD :=
  if (commK s b).1≠4 then commK s b else if (prepK s b L).1≠0 then prepK s b L else commK (prepK s b L).2 b
def endR (c:CoS) (s:SkD):Int × SkD:=if s.kind=0 then commitC s c.now.batch c.now.lines else delivK s c.now.batch c.now.lines
def finishC (d:DsS) (c:CoS) (s:SkD):DsS × CoS × SkD × Int :=
  if c.stop=true then (d,c,s,9) else if c.now.phase≠2 then (d,c,s,7) else
  let r:=stepK d c 2 (stI c.now.batch c.now.next,(endR c s).1)
  (r.1,r.2.1,(endR c s).2,r.2.2)
def dropR (c:CoS) (s:SkD):SkD:=if s.kind=0∧s.prep=c.now.batch then (abortK s c.now.batch).2 else s
def abortC (d:DsS) (c:CoS) (s:SkD):DsS × CoS × SkD × Int :=
  if c.stop=true then (d,c,s,9) else if c.now.phase≠1 then (d,c,s,7) else
  let r:=stepK d c 1 (stI c.now.last c.now.check,0)
  (r.1,r.2.1,dropR c s,r.2.2)
def recoverC (d:DsS) (c:CoS) (s:SkD):DsS × CoS × SkD × Int :=
  if c.stop=true then (d,c,s,9) else if c.now.phase=1 then abortC d c s else if c.now.phase=2 then finishC d c s else (d,c,s,0)
def openC2 (k:CelS):Option CoS × Int :=
  if k.slot=0 then (some ⟨k,stC0,false,false⟩,0) else match readC k.value with
  | none=>(none,2)
  | some x=>(some ⟨k,x,false,false⟩,0)
def openC1 (d:DsS) (file:Int):Option CoS × Int:=match openC d file with
  | (none,e)=>(none,e)
  | (some k,_)=>openC2 k
def openK (d:DsS) (file:Int):DsS × Option CoS × Int :=
  let r:=syncS d file
  if r.2≠0 then (r.1,none,r.2) else (r.1,openC1 r.1 file)
def checkC (c:CoS):ByteArray:=if c.now.phase=2 then c.now.next else c.now.check
def CEnc (s:Nat) (v:Bs) (x:StC):Prop:=(s=0∧x=stC0)∨(s≠0∧v=formC x)
def CFut (d:DsS) (P:StC→Prop):Prop:=Fut (d.files 3) fun s v=>∃ x,CEnc s v x∧StW x∧P x
theorem stI_w {last:Int} {check:ByteArray} (h1:0≤last) (h2:I64 last) (h3:check.size≤600):StW (stI last check) :=
  ⟨⟨h1,h2⟩,.inl rfl,h3,fun _=>⟨rfl,rfl,rfl,rfl⟩,fun h=>absurd rfl h,by show I64 0∧I64 0;unfold I64;decide,by show (0:Nat)≤600;decide,fun y hy=>(by cases hy),Nat.zero_le _⟩
theorem stC0_w:StW stC0:=stI_w (Int.le_refl 0) (by unfold I64;decide) (by show (0:Nat)≤600;decide)
structure CLive (d:DsS) (c:CoS):Prop where
  file:c.cell.file=3
  now:CelAt (d.files 3).now c.cell.slot c.cell.value
  last:CelAt (d.files 3).last c.cell.slot c.cell.value
  enc:CEnc c.cell.slot c.cell.value c.now
  w:StW c.now
theorem CLive.fut {d:DsS} {c:CoS} (h:CLive d c) {P:StC→Prop} (hP:P c.now):CFut d P:=fut_same h.now h.last ⟨c.now,h.enc,h.w,hP⟩
theorem CFut.mono {d:DsS} {P Q:StC→Prop} (h:CFut d P) (hPQ:∀ x,P x→Q x):CFut d Q:=Fut.mono h fun s v ⟨x,h1,h2,h3⟩=>⟨x,h1,h2,hPQ x h3⟩
theorem CFut.ev {d d':DsS} {P:StC→Prop} (h:CFut d P) (h1:Ev (d.files 3) (d'.files 3)):CFut d' P:=h1.fut h
theorem CFut.frame {d d':DsS} {P:StC→Prop} (h:CFut d P) (hf:d'.files=d.files):CFut d' P:=by
  unfold CFut;rw [hf];exact h
theorem CFut.some {d:DsS} {P:StC→Prop} (h:CFut d P):∃ x,StW x∧P x:=by
  obtain ⟨⟨s,v,_,x,_,h2,h3⟩,_⟩:=h
  exact ⟨x,h2,h3⟩
theorem CLive.frame {d d':DsS} {c:CoS} (h:CLive d c) (hf:d'.files=d.files):CLive d' c:=⟨h.file,by rw [hf];exact h.now,by rw [hf];exact h.last,h.enc,h.w⟩
theorem cnew_fut:CFut dsNew fun x=>x=stC0:=fut_same (s:=0) (v:=[]) (.inl ⟨rfl,rfl,rfl⟩) (.inl ⟨rfl,rfl,rfl⟩) ⟨stC0,.inl ⟨rfl,rfl⟩,stC0_w,rfl⟩
structure OpenRC (d:DsS) (P:StC→Prop) (r:DsS × Option CoS × Int):Prop where
  w:DsW r.1
  fine:DsH d→DsH r.1∧r.2.2=0
  or:(∃ c,r.2.1=some c∧r.2.2=0∧CLive r.1 c∧P c.now∧c.prep=false∧c.stop=false)∨(r.2.1=none∧(r.2.2=9∨r.2.2=10)∧CFut r.1 P)
theorem openK_out {d:DsS} {P:StC→Prop} (hw:DsW d) (h:CFut d P):OpenRC d P (openK d 3):=by
  have hb:(0:Int)≤3∧(3:Int)<16:=by decide
  unfold openK
  simp only
  obtain ⟨a1,a2,a3,a4⟩:=sync_out (d:=d) (F:=3) hb hw
  obtain ⟨⟨d1,e1⟩,h1⟩:∃ x,syncS d 3=x:=⟨_,rfl⟩
  rw [h1] at a1 a2 a3 a4 ⊢
  simp only at a1 a2 a3 a4 ⊢
  by_cases he1:e1≠0
  · rw [if_pos he1]
    rcases a4 with ⟨h',_⟩|⟨h',h2⟩
    · exact absurd h' he1
    · exact ⟨a1,fun h=>absurd (a3 h).2 he1,.inr ⟨rfl,h',h.ev h2⟩⟩
  rw [if_neg he1]
  have he1:e1=0:=Decidable.not_not.1 he1
  obtain ⟨hdn,f1⟩:d1.down=false∧d1.files 3=⟨(d.files 3).now,(d.files 3).now⟩:=by
    rcases a4 with ⟨_,h1,h2⟩|⟨h,_⟩
    · exact ⟨h1,h2⟩
    · rw [he1] at h;omega
  obtain ⟨⟨s,v,k1,x,k2,k3,k4⟩,_⟩:=h
  have k5:CelAt (d1.files 3).now s v:=by rw [f1];exact k1
  have k6:CelAt (d1.files 3).last s v:=by rw [f1];exact k1
  have ho:=openC_at hdn hb k5
  have e:openC1 d1 3=(some ⟨⟨3,s,v,false⟩,x,false,false⟩,0):=by
    unfold openC1
    rw [ho]
    simp only
    unfold openC2
    rcases k2 with ⟨rfl,rfl⟩|⟨hs,rfl⟩
    · rw [if_pos rfl]
    · rw [if_neg hs,readC_form k3]
  rw [e]
  exact ⟨a1,fun h=>⟨(a3 h).1,rfl⟩,.inl ⟨_,rfl,rfl,⟨rfl,k5,k6,k2,k3⟩,k4,rfl,rfl⟩⟩
structure NoteRC (d:DsS) (c:CoS) (x:StC) (r:DsS × CoS × Int):Prop where
  w:DsW r.1
  fine:DsH d→DsH r.1∧r.2.2=0
  or:(r.2.2=0∧r.2.1.now=x∧r.2.1.prep=false∧r.2.1.stop=false∧CLive r.1 r.2.1)∨((r.2.2=9∨r.2.2=10)∧r.2.1.now=c.now∧r.2.1.stop=true∧CFut r.1 fun y=>y=c.now∨y=x)
theorem noteC_out {d:DsS} {c:CoS} {x:StC} (hw:DsW d) (h:CLive d c) (hx:StW x):NoteRC d c x (noteC d c x):=by
  have hS:=setC_out (d:=d) (c:=c.cell) (s:=formC x) (by rw [h.file];decide) hw (form_len hx) (by rw [h.file];exact h.now) (by rw [h.file];exact h.last)
  unfold noteC
  obtain ⟨⟨d1,c1,e1⟩,h1⟩:∃ x',setC d c.cell (formC x)=x':=⟨_,rfl⟩
  rw [h1] at hS ⊢
  simp only
  have hslot:(if c.cell.slot=1 then 2 else 1:Nat)≠0:=by split<;>decide
  by_cases he:e1=0
  · rw [if_pos he]
    obtain ⟨g1,g2,X,g3,g4⟩:=hS.ok he
    simp only at g1 g2 g3
    rw [h.file] at g3
    have hf:c1.file=3:=hS.file.trans h.file
    refine ⟨hS.w,fun hh=>⟨(hS.fine hh).1,rfl⟩,.inl ⟨rfl,rfl,rfl,rfl,hf,?_,?_,.inr ⟨by show c1.slot≠0;rw [g1];exact hslot,g2⟩,hx⟩⟩
    · show CelAt (d1.files 3).now c1.slot c1.value
      rw [g3,g1,g2];exact g4
    · show CelAt (d1.files 3).last c1.slot c1.value
      rw [g3,g1,g2];exact g4
  · rw [if_neg he]
    obtain ⟨g1,g2⟩:=hS.bad he
    simp only at g1 g2
    rw [h.file] at g2
    refine ⟨hS.w,fun hh=>absurd (hS.fine hh).2 he,.inr ⟨g1,rfl,?_,?_⟩⟩
    · show decide (e1≠6)=true
      rw [decide_eq_true_eq];omega
    · refine Fut.mono g2 fun s v hv=>?_
      rcases hv with ⟨rfl,rfl⟩|⟨rfl,rfl⟩
      · exact ⟨c.now,h.enc,h.w,.inl rfl⟩
      · exact ⟨x,.inr ⟨hslot,rfl⟩,hx,.inr rfl⟩
theorem stepK_out {d:DsS} {c:CoS} {phase:Int} {r:StC × Int} (hs:c.stop=false) (hp:c.now.phase=phase) (hr:r.2=0):stepK d c phase r=noteC d c r.1:=by
  unfold stepK
  rw [if_neg (by rw [hs];simp),if_neg (by simp [hp]),if_neg (by simp [hr])]
end Go.Proofs.YtfccagphnfceiaaGreatDoor
end

section
namespace Go.Proofs.YtfccagphnfceiaaGreatDoor
open Go.Vc
abbrev dskB (e:Int):Bool:=decide (e=9)||decide (e=10)
structure StoS where
  taken:List LineD
  last:Int
  check:ByteArray
  batch:Int
  lines:List LineD
  next:ByteArray
  decided:Bool
  sure:Bool
def followS (x:StoS) (kind batch:Int) (lines:List LineD) (next:ByteArray) (e:Int) (stopped:Bool):StoS :=
  if stopped=true then x else if e≠0∧dskB e=false then x else
  if kind=0 then { x with batch:=batch,lines:=lines,next:=next,decided:=false,sure:=false } else if kind=2 then { x with decided:=true,sure:=decide (e=0) } else x
def tookS (x:StoS):StoS:={ x with taken:=x.taken++x.lines,last:=x.batch,check:=x.next }
def fitsS (x:StoS) (s:SkD):Option StoS :=
  if lastK s=x.last then (if s.lines=x.taken then some x else none) else
  if x.decided=false∨lastK s≠x.batch∨x.batch≤x.last then none else
  if s.lines=x.taken++x.lines then some (tookS x) else none
def asideOk (s:SkD) (b:Int) (L:List LineD):Prop:=s.prep=0∨(s.prep=b∧s.aside=L)
def Same3 (x:StoS) (y:StC):Prop:=y.batch=x.batch∧y.lines=x.lines∧y.next=x.next
def OkY (s:SkD) (x:StoS) (y:StC):Prop :=
  (y.phase=0∧y.check=x.check∧y.last=x.last∧s.prep=0∧(x.sure=true→x.last=x.batch)) ∨
  (y.phase=1∧y.check=x.check∧y.last=x.last∧Same3 x y∧asideOk s y.batch y.lines∧x.sure=false) ∨
  (y.phase=2∧x.decided=true∧Same3 x y∧((y.last=x.last∧lookK s y.batch y.lines=0∧asideOk s y.batch y.lines)∨(x.last=y.batch∧x.check=y.next∧s.prep=0∧hasK s y.batch=true)))
structure SkC (s:SkD) (x:StoS):Prop where
  i:SkI s
  lines:s.lines=x.taken
  last:lastK s=x.last
  kind:s.kind≠0→s.prep=0
  pre:PrepOk s
  arow:s.aside.length≤18
structure CoI (d:DsS) (c:CoS) (s:SkD) (x:StoS) (stopped:Bool):Prop where
  stop:c.stop=stopped
  live:stopped=false→CLive d c∧OkY s x c.now∧(c.prep=true→c.now.phase=1→lookK s c.now.batch c.now.lines=0)
  dead:stopped=true→(c.now.phase=0→c.now.check=x.check)∧(c.now.phase=2→x.decided=true)∧StW c.now
theorem CoI.w {d:DsS} {c:CoS} {s:SkD} {x:StoS} {stopped:Bool} (h:CoI d c s x stopped):StW c.now:=by
  cases stopped with
  | false=>exact (h.live rfl).1.w
  | true=>exact (h.dead rfl).2.2
theorem CoI.says {d:DsS} {c:CoS} {s:SkD} {x:StoS} {stopped:Bool} (h:CoI d c s x stopped):(c.now.phase=0→c.now.check=x.check)∧(c.now.phase=2→x.decided=true):=by
  cases stopped with
  | true=>exact ⟨(h.dead rfl).1,(h.dead rfl).2.1⟩
  | false =>
    rcases (h.live rfl).2.1 with h1|h1|h1
    · exact ⟨fun _=>h1.2.1,fun h2=>by rw [h1.1] at h2;cases h2⟩
    · exact ⟨fun h2=>(by rw [h1.1] at h2;cases h2),fun h2=>by rw [h1.1] at h2;cases h2⟩
    · exact ⟨fun h2=>(by rw [h1.1] at h2;cases h2),fun _=>h1.2.1⟩
structure CoJ (d:DsS) (co:Option CoS) (s:SkD) (x:StoS) (stopped:Bool):Prop where
  w:DsW d
  sk:SkC s x
  fut:CFut d (OkY s x)
  co:∀ c,co=some c→CoI d c s x stopped
theorem look_any {s s':SkD} (h1:s'.bats=s.bats) (h2:s'.lines=s.lines) (h3:s'.key=s.key) (b:Int) (L:List LineD):lookK s' b L=lookK s b L:=by
  unfold lookK lastK
  rw [h1,h2,h3]
theorem not_has {s:SkD} (hI:SkI s) {b:Int} (h:lastK s<b):hasK s b=false:=by
  unfold hasK
  exact decide_eq_false fun hb=>by have:=last_ge hI hb;omega
theorem fits_same {x:StoS} {s:SkD} (h1:s.lines=x.taken) (h2:lastK s=x.last):fitsS x s=some x:=by
  unfold fitsS
  rw [if_pos h2,if_pos h1]
theorem follow_no {x:StoS} {kind batch e:Int} {lines:List LineD} {next:ByteArray} {stopped:Bool} (h:stopped=true∨(e≠0∧dskB e=false)∨(kind≠0∧kind≠2)):followS x kind batch lines next e stopped=x:=by
  unfold followS
  split
  · rfl
  split
  · rfl
  rename_i h1 h2
  rcases h with h|h|h
  · exact absurd h h1
  · exact absurd h h2
  · rw [if_neg h.1,if_neg h.2]
theorem dsk_of {e:Int} (h:e=9∨e=10):dskB e=true∧e≠0:=by rcases h with rfl|rfl<;>exact ⟨rfl,by decide⟩
structure CallC (d:DsS) (s:SkD) (x:StoS) (kind batch:Int) (lines:List LineD) (next:ByteArray) (stopped:Bool) (r:DsS × CoS × SkD × Int):Prop where
  to:∃ x',fitsS (followS x kind batch lines next r.2.2.2 stopped) r.2.2.1=some x'∧CoJ r.1 (some r.2.1) r.2.2.1 x' (stopped||dskB r.2.2.2)
  fine:DsH d→stopped=false→DsH r.1
theorem CallC.same {d:DsS} {c:CoS} {s:SkD} {x:StoS} {kind batch e:Int} {lines:List LineD} {next:ByteArray} {stopped:Bool} (h:CoJ d (some c) s x stopped)
    (he:stopped=true∨(e≠0∧dskB e=false)∨(kind≠0∧kind≠2∧dskB e=false)):CallC d s x kind batch lines next stopped (d,c,s,e):=by
  refine ⟨⟨x,?_,?_⟩,fun h _=>h⟩
  · rw [follow_no (he.imp id (Or.imp id fun h=>⟨h.1,h.2.1⟩))]
    exact fits_same h.sk.lines h.sk.last
  · have:(stopped||dskB e)=stopped:=by
      rcases he with h1|h1|h1
      · rw [h1];rfl
      · rw [h1.2,Bool.or_false]
      · rw [h1.2.2,Bool.or_false]
    show CoJ d (some c) s x (stopped||dskB e)
    rw [this];exact h
theorem CallC.note {d:DsS} {c:CoS} {s s':SkD} {x:StoS} {kind batch:Int} {lines:List LineD} {next:ByteArray} {y:StC} (h:CoJ d (some c) s x false) (hy:StW y)
    (h0:(noteC d c y).2.2=0→∃ x',fitsS (followS x kind batch lines next 0 false) s'=some x'∧SkC s' x'∧OkY s' x' y)
    (h1:∀ e,e=9∨e=10→∃ x',fitsS (followS x kind batch lines next e false) s'=some x'∧SkC s' x'∧OkY s' x' y∧OkY s' x' c.now) :
    CallC d s x kind batch lines next false ((noteC d c y).1,(noteC d c y).2.1,s',(noteC d c y).2.2):=by
  have hc:=h.co c rfl
  obtain ⟨l1,l2,l3⟩:=hc.live rfl
  have hn:=noteC_out h.w l1 hy
  refine ⟨?_,fun hd _=>(hn.fine hd).1⟩
  rcases hn.or with ⟨a1,a2,a3,a4,a5⟩|⟨a1,a2,a3,a4⟩
  · obtain ⟨x',g1,g2,g3⟩:=h0 a1
    simp only
    rw [a1]
    refine ⟨x',g1,hn.w,g2,a5.fut (by rw [a2];exact g3),fun c' e=>?_⟩
    cases e
    exact ⟨a4,fun _=>⟨a5,by rw [a2];exact g3,fun e=>by rw [a3] at e;cases e⟩,fun e=>by cases e⟩
  · obtain ⟨x',g1,g2,g3,g4⟩:=h1 _ a1
    refine ⟨x',g1,hn.w,g2,a4.mono fun z hz=>by rcases hz with rfl|rfl<;>assumption,fun c' e=>?_⟩
    cases e
    have e1:(false||dskB (noteC d c y).2.2)=true:=by rw [(dsk_of a1).1];rfl
    refine ⟨by rw [e1];exact a3,fun e=>(by rw [e1] at e;cases e),fun _=>?_⟩
    rw [a2]
    refine ⟨fun h0=>?_,fun h2=>?_,l1.w⟩
    · rcases g4 with g|g|g
      · exact g.2.1
      · rw [g.1] at h0;cases h0
      · rw [g.1] at h0;cases h0
    · rcases g4 with g|g|g
      · rw [g.1] at h2;cases h2
      · rw [g.1] at h2;cases h2
      · exact g.2.1
section
variable {d:DsS} {c:CoS} {s:SkD} {x:StoS} {batch mark:Int} {lines:List LineD} {next:ByteArray} {stopped:Bool}
theorem begin_call (h:CoJ d (some c) s x stopped) (hb:I64 batch) (hm:I64 mark) (hl:∀ y∈lines,rightR y.row=true→LineW y) (h6:lines.length≤6) (hn:next.size≤50) :
    CallC d s x 0 batch lines next stopped ((beginC d c batch mark lines next).1,(beginC d c batch mark lines next).2.1,s,(beginC d c batch mark lines next).2.2):=by
  have hc:=h.co c rfl
  unfold beginC stepK
  split
  · rename_i hs
    exact CallC.same (e:=9) h (.inl (by rw [←hc.stop];exact hs))
  rename_i hs
  have hst:stopped=false:=by rw [←hc.stop];simpa using hs
  subst hst
  split
  · exact CallC.same (e:=7) h (.inr (.inl ⟨by decide,rfl⟩))
  rename_i hp
  have hp:c.now.phase=0:=Decidable.not_not.1 hp
  unfold beginR
  split
  · exact CallC.same (e:=25) h (.inr (.inl ⟨by decide,rfl⟩))
  rename_i hlast
  split
  · exact CallC.same (e:=1) h (.inr (.inl ⟨by decide,rfl⟩))
  rename_i hbad
  rw [if_neg (by simp)]
  obtain ⟨l1,l2,_⟩:=hc.live rfl
  have hbad:∀ y∈lines,y.batch=batch∧rightR y.row=true:=fun y hy=>by
    have:=List.any_eq_false.1 (by simpa using hbad) y hy
    unfold badC at this
    simp only [Bool.or_eq_true,decide_eq_true_eq,Bool.not_eq_true',not_or,Decidable.not_not,Bool.not_eq_false,ne_eq] at this
    exact this
  obtain ⟨_,a2,a3,a4,_⟩:c.now.phase=0∧c.now.check=x.check∧c.now.last=x.last∧s.prep=0∧(x.sure=true→x.last=x.batch):=by
    rcases l2 with g|g|g
    · exact g
    · rw [g.1] at hp;cases hp
    · rw [g.1] at hp;cases hp
  have hw:=l1.w
  refine CallC.note (s':=s) h ⟨hw.last,.inr (.inl rfl),hw.check,(fun h=>by cases h),(fun _=>by show c.now.last<batch;omega),⟨hb,hm⟩,(by show next.size≤600;omega),fun y hy=>⟨hl y hy (hbad y hy).2,hbad y hy⟩,(by show lines.length≤18;omega)⟩ (fun _=>?_) (fun e he=>?_)
  · refine ⟨{ x with batch:=batch,lines:=lines,next:=next,decided:=false,sure:=false },?_,⟨h.sk.i,h.sk.lines,h.sk.last,h.sk.kind,h.sk.pre,h.sk.arow⟩,?_⟩
    · unfold followS
      rw [if_neg (by simp),if_neg (by simp),if_pos rfl]
      exact fits_same h.sk.lines h.sk.last
    · exact .inr (.inl ⟨rfl,a2,a3,⟨rfl,rfl,rfl⟩,.inl a4,rfl⟩)
  · obtain ⟨e1,e2⟩:=dsk_of he
    refine ⟨{ x with batch:=batch,lines:=lines,next:=next,decided:=false,sure:=false },?_,⟨h.sk.i,h.sk.lines,h.sk.last,h.sk.kind,h.sk.pre,h.sk.arow⟩,?_,?_⟩
    · unfold followS
      rw [if_neg (by simp),if_neg (by rw [e1];simp),if_pos rfl]
      exact fits_same h.sk.lines h.sk.last
    · exact .inr (.inl ⟨rfl,a2,a3,⟨rfl,rfl,rfl⟩,.inl a4,rfl⟩)
    · exact .inl ⟨hp,a2,a3,a4,fun h=>by cases h⟩
theorem one_now (h:CoJ d (some c) s x false) (hp:c.now.phase=1):c.now.check=x.check∧c.now.last=x.last∧Same3 x c.now∧asideOk s c.now.batch c.now.lines∧x.sure=false:=by
  rcases ((h.co c rfl).live rfl).2.1 with g|g|g
  · rw [g.1] at hp;cases hp
  · exact g.2
  · rw [g.1] at hp;cases hp
theorem one_more (h:CoJ d (some c) s x false) (hp:c.now.phase=1):lastK s<c.now.batch∧1≤c.now.batch:=by
  obtain ⟨a1,a2,_⟩:=one_now h hp
  have hw:=((h.co c rfl).live rfl).1.w
  have:=hw.batch (by rw [hp];decide)
  have:=hw.last.1
  have:=h.sk.last
  omega
theorem prepare_call (h:CoJ d (some c) s x stopped):CallC d s x 1 batch lines next stopped (d,(prepareC c s).1,(prepareC c s).2.1,(prepareC c s).2.2):=by
  have hc:=h.co c rfl
  unfold prepareC
  split
  · rename_i hs
    exact CallC.same (e:=9) h (.inl (by rw [←hc.stop];exact hs))
  rename_i hs
  have hst:stopped=false:=by rw [←hc.stop];simpa using hs
  subst hst
  split
  · exact CallC.same (e:=7) h (.inr (.inl ⟨by decide,rfl⟩))
  rename_i hp
  have hp:c.now.phase=1:=Decidable.not_not.1 hp
  obtain ⟨l1,l2,l3⟩:=hc.live rfl
  obtain ⟨a1,a2,a3,a4,a5⟩:=one_now h hp
  obtain ⟨m1,m2⟩:=one_more h hp
  have hnh:=not_has h.sk.i m1
  obtain ⟨b,hb⟩:∃ b,c.now.batch=b:=⟨_,rfl⟩
  obtain ⟨L,hL⟩:∃ L,c.now.lines=L:=⟨_,rfl⟩
  have key:dskB (giveC c s).1=false∧((giveC c s).1=0→lookK s c.now.batch c.now.lines=0)∧((giveC c s).2=s∨(s.kind=0∧(giveC c s).2={ s with prep:=c.now.batch,aside:=c.now.lines }∧lookK s c.now.batch c.now.lines=0)):=by
    unfold giveC prepK delivK
    rw [hnh]
    have hlk:∀ {e:Int},e=lookK s c.now.batch c.now.lines→dskB e=false:=fun {e} he=>by
      unfold lookK at he
      split at he
      · rw [he];rfl
      split at he
      · rw [he];rfl
      split at he
      · rw [he];rfl
      split at he<;>(rw [he];rfl)
    by_cases hk:s.kind=0
    · rw [if_pos hk,if_neg (by simp [hk]),if_neg (by simp)]
      by_cases hl:lookK s c.now.batch c.now.lines≠0
      · rw [if_pos hl];exact ⟨hlk rfl,fun h=>absurd h hl,.inl rfl⟩
      · rw [if_neg hl];exact ⟨rfl,fun _=>Decidable.not_not.1 hl,.inr ⟨hk,rfl,Decidable.not_not.1 hl⟩⟩
    · rw [if_neg hk,if_neg hk,if_neg (by simp)]
      by_cases hl:lookK s c.now.batch c.now.lines≠0
      · rw [if_pos hl];exact ⟨hlk rfl,fun h=>absurd h hl,.inl rfl⟩
      · rw [if_neg hl];exact ⟨rfl,fun _=>Decidable.not_not.1 hl,.inl rfl⟩
  obtain ⟨k1,k2,k3⟩:=key
  have hsk:SkC (giveC c s).2 x∧(OkY (giveC c s).2 x c.now)∧lookK (giveC c s).2 c.now.batch c.now.lines=lookK s c.now.batch c.now.lines:=by
    rcases k3 with e|⟨k,e,hlk⟩
    · rw [e];exact ⟨h.sk,l2,rfl⟩
    · rw [e]
      obtain ⟨q1,q2,q3,_⟩:=look_ok (by rw [hlk];simp:¬ lookK s c.now.batch c.now.lines≠0)
      refine ⟨⟨⟨h.sk.i.asc,h.sk.i.pos,h.sk.i.row,fun y hy=>(bad_right (q3 y hy)).2.2.1⟩,h.sk.lines,h.sk.last,fun hk=>absurd k hk,fun _=>m1,l1.w.few⟩,.inr (.inl ⟨hp,a1,a2,a3,.inr ⟨rfl,rfl⟩,a5⟩),look_any rfl rfl rfl _ _⟩
  obtain ⟨s1,s2,s3⟩:=hsk
  refine ⟨⟨x,?_,?_⟩,fun h _=>h⟩
  · rw [follow_no (.inr (.inr ⟨by decide,by decide⟩))]
    exact fits_same s1.lines s1.last
  · show CoJ d _ _ x (false||dskB (giveC c s).1)
    rw [k1]
    refine ⟨h.w,s1,l1.fut s2,fun c' e=>?_⟩
    cases e
    refine ⟨by simpa using hs,fun _=>⟨⟨l1.file,l1.now,l1.last,l1.enc,l1.w⟩,s2,fun hpr _=>?_⟩,fun e=>by cases e⟩
    show lookK (giveC c s).2 c.now.batch c.now.lines=0
    rw [s3]
    have hpr:(c.prep||decide ((giveC c s).1=0))=true:=hpr
    rw [Bool.or_eq_true] at hpr
    rcases hpr with hpr|hpr
    · exact l3 hpr hp
    · exact k2 (of_decide_eq_true hpr)
theorem decide_call (h:CoJ d (some c) s x stopped):CallC d s x 2 batch lines next stopped ((decideC d c).1,(decideC d c).2.1,s,(decideC d c).2.2):=by
  have hc:=h.co c rfl
  unfold decideC stepK
  split
  · rename_i hs
    exact CallC.same (e:=9) h (.inl (by rw [←hc.stop];exact hs))
  rename_i hs
  have hst:stopped=false:=by rw [←hc.stop];simpa using hs
  subst hst
  split
  · exact CallC.same (e:=7) h (.inr (.inl ⟨by decide,rfl⟩))
  rename_i hp
  have hp:c.now.phase=1:=Decidable.not_not.1 hp
  unfold decideR
  split
  · exact CallC.same (e:=25) h (.inr (.inl ⟨by decide,rfl⟩))
  rename_i hpr
  have hpr:c.prep=true:=by simpa using hpr
  rw [if_neg (by simp)]
  obtain ⟨l1,l2,l3⟩:=hc.live rfl
  obtain ⟨a1,a2,a3,a4,a5⟩:=one_now h hp
  have hlk:=l3 hpr hp
  have hw:=l1.w
  refine CallC.note (s':=s) h ⟨hw.last,.inr (.inr rfl),hw.check,(fun h=>by cases h),fun _=>hw.batch (by rw [hp];decide),hw.ints,hw.next,hw.line,hw.few⟩ (fun _=>?_) (fun e he=>?_)
  · refine ⟨{ x with decided:=true,sure:=true },?_,⟨h.sk.i,h.sk.lines,h.sk.last,h.sk.kind,h.sk.pre,h.sk.arow⟩,.inr (.inr ⟨rfl,rfl,a3,.inl ⟨a2,hlk,a4⟩⟩)⟩
    unfold followS
    rw [if_neg (by simp),if_neg (by simp),if_neg (by decide),if_pos rfl]
    exact fits_same h.sk.lines h.sk.last
  · obtain ⟨e1,e2⟩:=dsk_of he
    refine ⟨{ x with decided:=true,sure:=false },?_,⟨h.sk.i,h.sk.lines,h.sk.last,h.sk.kind,h.sk.pre,h.sk.arow⟩,.inr (.inr ⟨rfl,rfl,a3,.inl ⟨a2,hlk,a4⟩⟩),.inr (.inl ⟨hp,a1,a2,a3,a4,rfl⟩)⟩
    unfold followS
    rw [if_neg (by simp),if_neg (by rw [e1];simp),if_neg (by decide),if_pos rfl,decide_eq_false e2]
    exact fits_same h.sk.lines h.sk.last
theorem abort_call {kind:Int} (hkind:kind≠0∧kind≠2) (h:CoJ d (some c) s x stopped):CallC d s x kind batch lines next stopped (abortC d c s):=by
  have hc:=h.co c rfl
  unfold abortC
  split
  · rename_i hs
    exact CallC.same (e:=9) h (.inl (by rw [←hc.stop];exact hs))
  rename_i hs
  have hst:stopped=false:=by rw [←hc.stop];simpa using hs
  subst hst
  split
  · exact CallC.same (e:=7) h (.inr (.inl ⟨by decide,rfl⟩))
  rename_i hp
  have hp:c.now.phase=1:=Decidable.not_not.1 hp
  obtain ⟨l1,l2,l3⟩:=hc.live rfl
  obtain ⟨a1,a2,a3,a4,a5⟩:=one_now h hp
  obtain ⟨m1,m2⟩:=one_more h hp
  have hw:=l1.w
  simp only
  rw [stepK_out (by simpa using hs) hp rfl]
  have key:SkC (dropR c s) x∧(dropR c s).prep=0:=by
    unfold dropR
    split
    · rename_i hk
      have e:abortK s c.now.batch=(0,{ s with prep:=0,aside:=[] }):=by
        unfold abortK
        rw [if_neg (by simp [hk.1]),if_neg (by rw [not_has h.sk.i m1];simp),if_neg]
        rw [hk.2];simp;omega
      rw [e]
      exact ⟨⟨⟨h.sk.i.asc,h.sk.i.pos,h.sk.i.row,fun y hy=>by cases hy⟩,h.sk.lines,h.sk.last,fun _=>rfl,fun h=>absurd rfl h,Nat.zero_le _⟩,rfl⟩
    · rename_i hk
      refine ⟨h.sk,?_⟩
      by_cases h0:s.kind=0
      · rcases a4 with g|g
        · exact g
        · exact absurd ⟨h0,g.1⟩ hk
      · exact h.sk.kind h0
  obtain ⟨k1,k2⟩:=key
  have hf:∀ e,fitsS (followS x kind batch lines next e false) (dropR c s)=some x:=fun e=>by
    rw [follow_no (.inr (.inr hkind))]
    exact fits_same k1.lines k1.last
  refine CallC.note (s':=dropR c s) h (stI_w hw.last.1 hw.last.2 hw.check) (fun _=>⟨x,hf 0,k1,.inl ⟨rfl,a1,a2,k2,fun h=>by rw [a5] at h;cases h⟩⟩) (fun e he=>⟨x,hf e,k1,.inl ⟨rfl,a1,a2,k2,fun h=>by rw [a5] at h;cases h⟩,.inr (.inl ⟨hp,a1,a2,a3,.inl k2,a5⟩)⟩)
theorem end_new {b:Int} {L:List LineD} (hI:SkI s) (hk:s.kind≠0→s.prep=0) (hlk:lookK s b L=0) (ha:asideOk s b L) :
    ∃ s',(if s.kind=0 then commitC s b L else delivK s b L)=(0,s')∧s'.lines=s.lines++L∧s'.bats=s.bats++[b]∧s'.prep=0∧s'.kind=s.kind∧s'.key=s.key∧(s'.aside=[]∨s'.aside=s.aside):=by
  obtain ⟨q1,q2,q3,_⟩:=look_ok (by rw [hlk];simp:¬ lookK s b L≠0)
  have hnh:=not_has hI q2
  split
  · rename_i h0
    unfold commitC
    have e1:(commK s b).1≠4→commK s b=(0,{ takeK s b s.aside with prep:=0,aside:=[] })∧s.aside=L:=fun h=>by
      unfold commK at h ⊢
      rw [if_neg (by simp [h0]),if_neg (by rw [hnh];simp)] at h ⊢
      split at h
      · exact absurd rfl h
      · rename_i h2
        rw [if_neg h2]
        refine ⟨rfl,?_⟩
        simp only [Bool.or_eq_true,decide_eq_true_eq,not_or,Int.not_lt,ne_eq,Decidable.not_not] at h2
        rcases ha with g|g
        · omega
        · exact g.2
    split
    · rename_i h1
      obtain ⟨e2,e3⟩:=e1 h1
      rw [e2]
      exact ⟨_,rfl,by show s.lines++s.aside=_;rw [e3],rfl,rfl,rfl,rfl,.inl rfl⟩
    · have ep:prepK s b L=(0,{ s with prep:=b,aside:=L }):=by
        unfold prepK
        rw [if_neg (by simp [h0]),if_neg (by rw [hnh];simp),if_neg (by rw [hlk];simp)]
      rw [ep]
      simp only
      rw [if_neg (by simp)]
      refine ⟨{ takeK s b L with prep:=0,aside:=[] },?_,rfl,rfl,rfl,rfl,rfl,.inl rfl⟩
      unfold commK
      rw [if_neg (by simp [h0]),if_neg (by show ¬ hasK s b=true;rw [hnh];simp),if_neg (by simp;omega)]
      rfl
  · rename_i h0
    unfold delivK
    rw [if_neg h0,if_neg (by rw [hnh];simp),if_neg (by rw [hlk];simp)]
    exact ⟨_,rfl,rfl,rfl,hk h0,rfl,rfl,.inr rfl⟩
theorem end_old {b:Int} {L:List LineD} (hh:hasK s b=true):(if s.kind=0 then commitC s b L else delivK s b L)=(0,s):=by
  split
  · rename_i h0
    have e:commK s b=(0,s):=by
      unfold commK
      rw [if_neg (by simp [h0]),if_pos hh]
    unfold commitC
    rw [e]
    rfl
  · rename_i h0
    unfold delivK
    rw [if_neg h0,if_pos hh]
theorem finish_call {kind:Int} (hkind:kind≠0∧kind≠2) (h:CoJ d (some c) s x stopped):CallC d s x kind batch lines next stopped (finishC d c s):=by
  have hc:=h.co c rfl
  unfold finishC
  split
  · rename_i hs
    exact CallC.same (e:=9) h (.inl (by rw [←hc.stop];exact hs))
  rename_i hs
  have hst:stopped=false:=by rw [←hc.stop];simpa using hs
  subst hst
  split
  · exact CallC.same (e:=7) h (.inr (.inl ⟨by decide,rfl⟩))
  rename_i hp
  have hp:c.now.phase=2:=Decidable.not_not.1 hp
  obtain ⟨l1,l2,l3⟩:=hc.live rfl
  have hw:=l1.w
  have hb:=hw.batch (by rw [hp];decide)
  have hyw:StW (stI c.now.batch c.now.next):=stI_w (by have:=hw.last.1;omega) hw.ints.1 hw.next
  obtain ⟨a1,a2,a3⟩:x.decided=true∧Same3 x c.now∧((c.now.last=x.last∧lookK s c.now.batch c.now.lines=0∧asideOk s c.now.batch c.now.lines)∨(x.last=c.now.batch∧x.check=c.now.next∧s.prep=0∧hasK s c.now.batch=true)):=by
    rcases l2 with g|g|g
    · rw [g.1] at hp;cases hp
    · rw [g.1] at hp;cases hp
    · exact g.2
  simp only
  rcases a3 with ⟨b1,b2,b3⟩|⟨b1,b2,b3,b4⟩
  · obtain ⟨s',e,g1,g2,g3,g4,g5,g6⟩:=end_new h.sk.i h.sk.kind b2 b3
    have er:endR c s=(0,s'):=e
    obtain ⟨q1,q2,q3,_⟩:=look_ok (by rw [b2];simp:¬ lookK s c.now.batch c.now.lines≠0)
    rw [er,stepK_out (by simpa using hs) hp rfl]
    have hlast:lastK s'=c.now.batch:=by unfold lastK;rw [g2,List.getLast?_append];rfl
    have hhas:hasK s' c.now.batch=true:=by unfold hasK;rw [g2];exact decide_eq_true (by simp)
    have hI':=take_i h.sk.i (b:=c.now.batch) (L:=c.now.lines) q2 q1 hw.ints.1 fun y hy=>(bad_right (q3 y hy)).2.2.1
    have hsk:SkC s' (tookS x):=⟨⟨by rw [g2];exact hI'.asc,by rw [g2];exact hI'.pos,by rw [g1];exact hI'.row,fun y hy=>by
        rcases g6 with g6|g6
        · rw [g6] at hy;cases hy
        · rw [g6] at hy;exact h.sk.i.arow y hy⟩,by rw [g1,h.sk.lines,a2.2.1];rfl,by rw [hlast,a2.1];rfl,fun _=>g3,fun h=>absurd g3 h,by
        rcases g6 with g6|g6
        · rw [g6];exact Nat.zero_le _
        · rw [g6];exact h.sk.arow⟩
    have hf:∀ e,fitsS (followS x kind batch lines next e false) s'=some (tookS x):=fun e=>by
      rw [follow_no (.inr (.inr hkind))]
      have hl:=h.sk.last
      unfold fitsS
      rw [if_neg (by rw [hlast];omega),if_neg,if_pos (by rw [g1,h.sk.lines,a2.2.1])]
      rw [hlast,a1,a2.1]
      have:=a2.1
      simp only [Bool.true_eq_false,ne_eq,not_true_eq_false,false_or]
      omega
    have hy0:OkY s' (tookS x) (stI c.now.batch c.now.next):=.inl ⟨rfl,a2.2.2,a2.1,g3,fun _=>rfl⟩
    refine CallC.note (s':=s') h hyw (fun _=>⟨tookS x,hf 0,hsk,hy0⟩) (fun e he=>⟨tookS x,hf e,hsk,hy0,.inr (.inr ⟨hp,a1,a2,.inr ⟨a2.1.symm,a2.2.2.symm,g3,hhas⟩⟩)⟩)
  · have er:endR c s=(0,s):=end_old b4
    rw [er,stepK_out (by simpa using hs) hp rfl]
    have hf:∀ e,fitsS (followS x kind batch lines next e false) s=some x:=fun e=>by
      rw [follow_no (.inr (.inr hkind))]
      exact fits_same h.sk.lines h.sk.last
    have hy0:OkY s x (stI c.now.batch c.now.next):=.inl ⟨rfl,b2.symm,b1.symm,b3,fun _=>b1.trans a2.1⟩
    refine CallC.note (s':=s) h hyw (fun _=>⟨x,hf 0,h.sk,hy0⟩) (fun e he=>⟨x,hf e,h.sk,hy0,l2⟩)
theorem recover_call (h:CoJ d (some c) s x stopped):CallC d s x 5 batch lines next stopped (recoverC d c s):=by
  have hc:=h.co c rfl
  unfold recoverC
  split
  · rename_i hs
    exact CallC.same (e:=9) h (.inl (by rw [←hc.stop];exact hs))
  split
  · exact abort_call (by decide) h
  split
  · exact finish_call (by decide) h
  · exact CallC.same (e:=0) h (.inr (.inr ⟨by decide,by decide,rfl⟩))
end
end Go.Proofs.YtfccagphnfceiaaGreatDoor
end

section
namespace Go.Proofs.YtfccagphnfceiaaGreatDoor
open Go.Vc
section
variable {d:DsS} {co:Option CoS} {s:SkD} {x:StoS} {stopped:Bool}
structure CoD (d:DsS) (s:SkD) (x:StoS):Prop where
  w:DsW d
  sk:SkC s x
  fut:CFut d (OkY s x)
theorem CoJ.disk (h:CoJ d co s x stopped):CoD d s x:=⟨h.w,h.sk,h.fut⟩
theorem CoD.frame {d':DsS} (h:CoD d s x) (hw:DsW d') (hf:d'.files=d.files):CoD d' s x:=⟨hw,h.sk,h.fut.frame hf⟩
theorem CoD.crash (h:CoD d s x) (keep:List Int):CoD (crashS d keep) s x:=⟨crash_w h.w keep,h.sk,h.fut.ev (crash_ev h.w keep 3)⟩
theorem CoJ.frame {d':DsS} (h:CoJ d co s x stopped) (hw:DsW d') (hf:d'.files=d.files):CoJ d' co s x stopped :=
  ⟨hw,h.sk,h.fut.frame hf,fun c e=>⟨(h.co c e).stop,fun h2=>⟨((h.co c e).live h2).1.frame hf,((h.co c e).live h2).2⟩,(h.co c e).dead⟩⟩
theorem CoD.open_ (h:CoD d s x):CoJ (openK d 3).1 (openK d 3).2.1 s x false∧((openK d 3).2.1=none→(openK d 3).2.2=9∨(openK d 3).2.2=10)∧((openK d 3).2.1≠none→(openK d 3).2.2=0)∧(DsH d→DsH (openK d 3).1∧(openK d 3).2.2=0):=by
  have ho:=openK_out h.w h.fut
  rcases ho.or with ⟨c,h1,h2,h3,h4,h5,h6⟩|⟨h1,h2,h3⟩
  · refine ⟨⟨ho.w,h.sk,h3.fut h4,fun c' e=>?_⟩,fun e=>(by rw [h1] at e;cases e),fun _=>h2,ho.fine⟩
    rw [h1] at e
    cases e
    exact ⟨h6,fun _=>⟨h3,h4,fun e=>by rw [h5] at e;cases e⟩,fun e=>by cases e⟩
  · exact ⟨⟨ho.w,h.sk,h3,fun c e=>by rw [h1] at e;cases e⟩,fun _=>h2,fun e=>absurd h1 e,ho.fine⟩
theorem new_sk (kind:Int):SkC (newK kind []) ⟨[],0,.empty,0,[],.empty,false,false⟩:=⟨new_i kind [],rfl,rfl,fun _=>rfl,fun h=>absurd rfl h,Nat.zero_le _⟩
theorem new_co (kind:Int):CoD dsNew (newK kind []) ⟨[],0,.empty,0,[],.empty,false,false⟩ :=
  ⟨dsNew_w,new_sk kind,cnew_fut.mono fun y hy=>by rw [hy];exact .inl ⟨rfl,rfl,rfl,rfl,fun h=>by cases h⟩⟩
theorem recover_end {c:CoS} (h:CoJ d (some c) s x false) (hd:DsH d) :
    (recoverC d c s).2.2.2=0∧(recoverC d c s).2.1.now.phase=0∧∃ x',fitsS x (recoverC d c s).2.2.1=some x'∧SkC (recoverC d c s).2.2.1 x'∧(recoverC d c s).2.1.now.check=x'.check∧(x'.sure=true→x'.last=x'.batch):=by
  have hc:=h.co c rfl
  obtain ⟨l1,l2,l3⟩:=hc.live rfl
  have hr:=recover_call (batch:=0) (lines:=[]) (next:=.empty) h
  obtain ⟨x',h1,h2⟩:=hr.to
  rw [follow_no (.inr (.inr ⟨by decide,by decide⟩))] at h1
  have e0:(recoverC d c s).2.2.2=0∧(recoverC d c s).2.1.now.phase=0:=by
    have note:∀ {y:StC},StW y→y.phase=0→(noteC d c y).2.2=0∧(noteC d c y).2.1.now.phase=0:=fun {y} hy hp=>by
      have hn:=noteC_out h.w l1 hy
      have h0:=(hn.fine hd).2
      rcases hn.or with g|g
      · exact ⟨h0,by rw [g.2.1];exact hp⟩
      · rw [h0] at g;omega
    have hs:c.stop=false:=hc.stop
    have hw:=l1.w
    unfold recoverC
    rw [if_neg (by rw [hs];simp)]
    split
    · rename_i hp
      unfold abortC
      rw [if_neg (by rw [hs];simp),if_neg (by simp [hp])]
      simp only
      rw [stepK_out hs hp rfl]
      exact note (stI_w hw.last.1 hw.last.2 hw.check) rfl
    · rename_i hp1
      split
      · rename_i hp
        have hyw:StW (stI c.now.batch c.now.next):=stI_w (by have:=hw.last.1;have:=hw.batch (by rw [hp];decide);omega) hw.ints.1 hw.next
        have her:(endR c s).1=0:=by
          obtain ⟨_,_,a3⟩:x.decided=true∧Same3 x c.now∧((c.now.last=x.last∧lookK s c.now.batch c.now.lines=0∧asideOk s c.now.batch c.now.lines)∨(x.last=c.now.batch∧x.check=c.now.next∧s.prep=0∧hasK s c.now.batch=true)):=by
            rcases l2 with g|g|g
            · rw [g.1] at hp;cases hp
            · rw [g.1] at hp;cases hp
            · exact g.2
          rcases a3 with ⟨_,b2,b3⟩|⟨_,_,_,b4⟩
          · obtain ⟨s',e,_⟩:=end_new h.sk.i h.sk.kind b2 b3
            have er:endR c s=(0,s'):=e
            rw [er]
          · have er:endR c s=(0,s):=end_old b4
            rw [er]
        unfold finishC
        rw [if_neg (by rw [hs];simp),if_neg (by simp [hp])]
        simp only
        rw [stepK_out hs hp her]
        exact note hyw rfl
      · rename_i hp2
        have:=hw.phase
        exact ⟨rfl,by show c.now.phase=0;omega⟩
  have e1:(false||dskB (recoverC d c s).2.2.2)=false:=by rw [e0.1];rfl
  rw [e1] at h2
  have hc2:=h2.co _ rfl
  refine ⟨e0.1,e0.2,x',h1,h2.sk,hc2.says.1 e0.2,?_⟩
  rcases (hc2.live rfl).2.1 with g|g|g
  · exact g.2.2.2.2
  · rw [g.1] at e0;exact absurd e0.2 (by decide)
  · rw [g.1] at e0;exact absurd e0.2 (by decide)
end
end Go.Proofs.YtfccagphnfceiaaGreatDoor
end

